/- Lemmas on the program and on partial functions that stand in place of its code (part 8); no condition beyond those that each one states. -/
import Derived.Test.YtodopnonpadpfaaGreatDoorZ7
import Derived.Laws.Strings
import Derived.KernelRfl
import Derived.Deep.RegionHeld3
namespace Go.Proofs.YtodopnonpadpfaaGreatDoor

theorem I9 (b:Bool):Do (some (if b then Ctl.next () else Ctl.out false)) (fun _:Unit=>some true)=some b:=by cases b <;> rfl
theorem Mm (x lo hi:Int):Bz x lo hi=some (inR x lo hi):=by
  unfold Bz inR;by_cases h:lo<=x <;> simp [h]
theorem Kr (x lo hi:Int):B3 x lo hi=some (inR x lo hi):=by
  unfold B3 inR;by_cases h:lo<=x <;> simp [h]
theorem At2 (xs:List Int) (lo hi:Int) (hx:xs.length<=1099511627776):Ih xs lo hi=some (xs.all fun x=>inR x lo hi):=by
  unfold Ih;rw [Em xs (fun x=>inR x lo hi) (.next ()) (.out false) (by omega) (fun i x h=>?_) ?_,I9]
  · unfold Hw;rw [A8 (by omega),cond_false]
  · have:=Av h;unfold Hw;rw [A9 (by omega),cond_true,h,obs,Mm,obs,At (by omega)];cases inR x lo hi <;> rfl
theorem Atv {p:Int} (h:inR p 2 97=false):isF p=false:=by rcases Ao8.1 h with h | h <;> simp [isF] <;> omega
theorem Akz (p:Int):Ft p=some (isF p):=by
  unfold Ft;rw [Mm,obs];cases hr:inR p 2 97
  · rw [Atv hr]; rfl
  rw [Bool.not_true,cond_false];obtain ⟨h1,h2⟩:=C6.1 hr;obtain ⟨n,rfl⟩:=Int.eq_ofNat_of_zero_le (show 0<=p by omega)
  have h:A4 (fun s_:Nat=>E3 n s_) 4611686018427387904 2=some (if isF n then .next () else .out false):=by
    refine Hq 8 (fun i s=>s=i+2∧Ag6 n s=true) (by omega) _ ⟨rfl,by simp [Ag6,List.range_succ]⟩ ?_ ?_
    · rintro i s hi ⟨hs,hd⟩;unfold E3;have hm:((s:Int)*(s:Int))=((s*s:Nat):Int):=by simp
      have hss:s*s<=9*9:=Nat.mul_le_mul (by omega) (by omega);rw [hm,Bw (by omega) (by omega)];by_cases hle:s*s<=n
      · rw [A9 (by omega),cond_true,At (by omega),show Int.tmod (n:Int) (s:Int)=((n % s:Nat):Int) from by rw [Int.tmod_eq_emod_of_nonneg (by omega)]; rfl];by_cases h0:n % s=0
        · refine .inr ?_;rw [h0,Atw n (by omega) s (by omega) (by omega) hle h0]; rfl
        · refine .inl ⟨s+1,?_,by omega,Amv hd h0⟩;rw [show (((n % s:Nat):Int)==0)=false from by rw [beq_eq_false_iff_ne]; omega,cond_false,At (by omega)]
      · refine .inr ?_;rw [A8 (by omega),cond_false,Agg n (by omega) (by omega) s (by omega) hd (by omega)]; rfl
    · rintro s ⟨hs,hd⟩;obtain rfl:s=10:=by omega
      unfold E3;rw [show wI (((10:Nat):Int)*((10:Nat):Int))=100 from Bw (by omega) (by omega),A8 (by omega),cond_false,Agg n (by omega) (by omega) 10 (by omega) hd (by omega)]; rfl
  rw [h,I9]
theorem Aj4 (p x:Int):Es p x=some (inR x 0 (p - 1)):=by
  unfold Es inR;by_cases h:0<=x
  · simp [h,show (x<p↔x<=p - 1) by omega]
  · simp [h]
theorem Au3 (p:Int) (xs:List Int) (hp:2<=p∧p<=97) (hx:xs.length<=1099511627776):Ja p xs=some (xs.all fun x=>inR x 0 (p - 1)):=by
  unfold Ja;rw [Bw (by omega) (by omega),At2 _ _ _ hx]; rfl
theorem And (p:Int) (xs:List Int) (n:Int) (hx:xs.length<=1099511627776):Fk p xs n=some (((xs.length:Nat):Int)==n&&xs.all fun x=>inR x 0 (p - 1)):=by
  unfold Fk;cases hn:((xs.length:Nat):Int)==n
  · rw [show (((xs.length:Nat):Int) !=n)=true by simp only [bne,hn,Bool.not_false]]; rfl
  rw [show (((xs.length:Nat):Int) !=n)=false by simp only [bne,hn,Bool.not_true],cond_false];rw [Em xs (fun x=>inR x 0 (p - 1)) (.next ()) (.out false) (by omega) (fun i x h=>?_) ?_,I9,Bool.true_and]
  · unfold Fg;rw [A8 (by omega),cond_false]
  · have:=Av h;unfold Fg;rw [A9 (by omega),cond_true,h,obs,Aj4,obs,At (by omega)];cases inR x 0 (p - 1) <;> rfl
theorem Aws {p x:Int} (hp:2<=p∧p<=97):Lc p x=some (x % p):=by
  unfold Lc;rw [At (by omega)]
  have e1:x.tmod p=if 0<=x∨x % p=0 then x % p else x % p - p:=by
    simp only [Int.tmod_eq_emod,Int.dvd_iff_emod_eq_zero];split <;> simp <;> omega
  have h1:=Int.emod_nonneg x (show p≠0 by omega);have h2:=Int.emod_lt_of_pos x (show 0<p by omega);by_cases h:x.tmod p<0
  · rw [A9 h,cond_true,obs,Bw (by omega) (by omega)];congr 1;split at e1 <;> omega
  · rw [A8 h,cond_false,obs];congr 1;split at e1 <;> omega
theorem An1 (xs:List Int) (h:xs.length<=1000000):G0 xs=some xs:=by
  unfold G0;rw [At (by omega)]
theorem Atn (xs:List Int) (h:xs.length<=1000000):H6 xs=some xs:=by
  unfold H6;rw [At (by omega)]
theorem Ahr {p x y:Int} (hp:2<=p∧p<=97) (hx:0<=x∧x<p) (hy:0<=y∧y<p):0<=x*y∧x*y<=10000:=by
  refine ⟨Int.mul_nonneg hx.1 hy.1,?_⟩;have h1:x*y<=97*y:=Int.mul_le_mul_of_nonneg_right (by omega) hy.1;omega
theorem Aoi {p x y:Int} (hp:2<=p∧p<=97) (hx:0<=x∧x<p) (hy:0<=y∧y<p):Gv p x y=some ((x*y) % p):=by
  have:=Ahr hp hx hy;unfold Gv;rw [At (by omega),Bw (by omega) (by omega),Int.tmod_eq_emod_of_nonneg (by omega)]
end Go.Proofs.YtodopnonpadpfaaGreatDoor

namespace Go.Proofs.YtodopnonpadpfaaGreatDoor
theorem Aw0 (a b:ByteArray):(a.toList==b.toList)=(a.data.toList==b.data.toList):=by rw [ByteArray.toList_eq,ByteArray.toList_eq]
theorem Am8 (s:ByteArray) (i:Nat):s[i]? =s.data.toList[i]?:=by
  by_cases h:i<s.size
  · rw [getElem?_pos s i h];have h':i<s.data.toList.length:=by simpa using h
    rw [gEg h']; rfl
  · rw [getElem?_neg s i h,List.getElem?_eq_none (by simp; exact Nat.le_of_not_lt h)]
theorem Aue (s:ByteArray):s.size=s.data.toList.length:=by
  show s.data.size=_;exact Array.length_toList.symm
def loB (c:UInt8):Bool:=decide (97<=((c.toNat:Nat):Int))&&decide (((c.toNat:Nat):Int)<=122)
def dgB (c:UInt8):Bool:=decide (48<=((c.toNat:Nat):Int))&&decide (((c.toNat:Nat):Int)<=57)
theorem Agd (c:UInt8):Ek ((c.toNat:Nat):Int)=some (loB c):=by
  unfold Ek loB;cases decide (97<=((c.toNat:Nat):Int)) <;> rfl
theorem Apg (c:UInt8):Gg ((c.toNat:Nat):Int)=some (dgB c):=by
  unfold Gg dgB;cases decide (48<=((c.toNat:Nat):Int)) <;> rfl
def Uc:List ByteArray:=[(⟨#[105,100]⟩:ByteArray),(⟨#[115,119,97,112]⟩:ByteArray),(⟨#[99,111,112,121]⟩:ByteArray),(⟨#[100,105,115,99,97,114,100]⟩:ByteArray),(⟨#[97,100,100]⟩:ByteArray),(⟨#[122,101,114,111]⟩:ByteArray),(⟨#[115,99,97,108,101]⟩:ByteArray),(⟨#[100,101,108,97,121]⟩:ByteArray),(⟨#[99,111,99,111,112,121]⟩:ByteArray),(⟨#[99,111,100,105,115,99,97,114,100]⟩:ByteArray),(⟨#[99,111,97,100,100]⟩:ByteArray),(⟨#[99,111,122,101,114,111]⟩:ByteArray),(⟨#[99,111,115,99,97,108,101]⟩:ByteArray),(⟨#[99,111,100,101,108,97,121]⟩:ByteArray)]
theorem Al0:F1=some Uc:=rfl
theorem Ajp:G1=some ((⟨#[]⟩:ByteArray) :: Uc):=rfl
theorem Avf (l:List ByteArray) (hl:l.length<=1000) (s:ByteArray):Hp l s=some (l.any fun x=>x.toList==s.toList):=by
  unfold Hp
  have hs:∀ i x,l[i]? =some x->Cr l s i=some (if x.toList==s.toList then Ctl.out (Ctl.out true) else Ctl.next (i+1)):=fun i x h=>by
    have:=Av h;unfold Cr;rw [A9 (by omega),cond_true,h,obs,At (by omega)];cases x.toList==s.toList <;> rfl
  have he:Cr l s l.length=some (Ctl.out (Ctl.next ())):=by
    unfold Cr;rw [A8 (by omega),cond_false]
  rcases Agy (body:=fun s_:Nat=>Cr l s s_) l (fun x=>x.toList==s.toList) (Ctl.next ()) (fun i=>Ctl.out true) (F:=4611686018427387904) (by omega) hs he with ⟨h1,i,hi,h2⟩ | ⟨h1,h2⟩
  · rw [h2,h1]; rfl
  · rw [h2,h1]; rfl
theorem Asi (s:ByteArray):∃ k:Int,Hc s=some k∧(k !=17)=(((⟨#[]⟩:ByteArray) :: Uc).any fun x=>x.toList==s.toList):=by
  unfold Hc;rw [Ajp,obs];have hl:((⟨#[]⟩:ByteArray) :: Uc).length=15:=rfl;generalize ((⟨#[]⟩:ByteArray) :: Uc)=l at hl ⊢
  have hs:∀ i x,l[i]? =some x->Cm l s i=some (if x.toList==s.toList then Ctl.out (Ctl.out (i:Int)) else Ctl.next (i+1)):=fun i x h=>by
    have:=Av h;unfold Cm;rw [A9 (by omega),cond_true,h,obs,At (by omega)];cases x.toList==s.toList <;> rfl
  have he:Cm l s l.length=some (Ctl.out (Ctl.next ())):=by
    unfold Cm;rw [A8 (by omega),cond_false]
  rcases Agy (body:=fun s_:Nat=>Cm l s s_) l (fun x=>x.toList==s.toList) (Ctl.next ()) (fun i=>Ctl.out (i:Int)) (F:=4611686018427387904) (by omega) hs he with ⟨h1,i,hi,h2⟩ | ⟨h1,h2⟩
  · rw [h2,h1];exact ⟨_,rfl,by rw [bne_iff_ne]; omega⟩
  · rw [h2,h1];exact ⟨_,rfl,rfl⟩
theorem Aqc (s:ByteArray):∃ b,Hr s=some b∧He s=some b:=by
  unfold Hr He I3;rw [Kr,Mm];cases hr:inR ((s.size:Nat):Int) 1 8
  · exact ⟨false,rfl,rfl⟩
  have hb:=C6.1 hr;have hsz:=Aue s;obtain ⟨c,hc⟩:∃ c,s[0]? =some c:=⟨_,getElem?_pos s 0 (by omega)⟩
  have hcl:s.data.toList[0]? =some c:=by rw [← Am8]; exact hc
  rw [obs,obs,Bool.not_true,cond_false,cond_false,hc,obs,obs,Agd,obs,obs];cases hlo:loB c
  · refine ⟨false,rfl,?_⟩
    have:(decide (((c.toNat:Nat):Int)<97))=true∨decide (122<((c.toNat:Nat):Int))=true:=by
      simp only [decide_eq_true_eq];simp only [loB,Bool.and_eq_false_iff,decide_eq_false_iff_not] at hlo;omega
    rcases this with h | h
    · rw [h]; rfl
    · rw [h]; cases decide (((c.toNat:Nat):Int)<97) <;> rfl
  have hlo':=hlo;simp only [loB,Bool.and_eq_true,decide_eq_true_eq] at hlo';obtain ⟨k,hk,hk2⟩:=Asi s;rw [hk,obs,Bool.not_true,cond_false,obs,hk2,A8 (show ¬ ((c.toNat:Nat):Int)<97 by omega),cond_false,A8 (show ¬ 122<((c.toNat:Nat):Int) by omega),obs,cond_false]
  have hne:((⟨#[]⟩:ByteArray).toList==s.toList)=false:=by
    rw [Aw0,beq_eq_false_iff_ne];intro e;rw [← e] at hcl; simp at hcl
  rw [List.any_cons,hne,Bool.false_or]
  -- the rest of the letters
  have hI:A4 (fun s_:Nat=>Eu s s_) 4611686018427387904 0=some (if s.data.toList.all (fun x=>loB x||dgB x) then Ctl.next () else Ctl.out false):=by
    refine Em s.data.toList (fun x=>loB x||dgB x) (Ctl.next ()) (Ctl.out false) (by omega) (fun i x h=>?_) ?_
    · have:=Av h;unfold Eu;rw [A9 (by omega),cond_true,Am8,h,obs,Agd,obs,obs,Apg,obs,At (by omega)];cases loB x <;> cases dgB x <;> rfl
    · unfold Eu;rw [A8 (by omega),cond_false]
  have hstep:∀ i x,s.data.toList[i]? =some x->Bn s i=some (if loB x||dgB x then Ctl.next (i+1) else Ctl.out (Ctl.out false)):=fun i x h=>by
    have:=Av h;unfold Bn;rw [A9 (by omega),cond_true,Am8,h];simp only [obs];rw [At (by omega)]
    have e:∀ n:Int,(cond (decide (n<97)) (cond (decide (n<48)) (some true) (some (decide (57<n)))) (cond (decide (122<n)) (cond (decide (n<48)) (some true) (some (decide (57<n)))) (some false)):Option Bool)=some (!((decide (97<=n)&&decide (n<=122))||(decide (48<=n)&&decide (n<=57)))):=by
      intro n;by_cases h1:n<97
      · by_cases h2:n<48
        · rw [A9 h1,A9 h2,A8 (show ¬ 97<=n by omega),A8 (show ¬ 48<=n by omega)]; rfl
        · by_cases h3:57<n
          · rw [A9 h1,A8 h2,A9 h3,A8 (show ¬ 97<=n by omega),A8 (show ¬ n<=57 by omega),Bool.and_false]; rfl
          · rw [A9 h1,A8 h2,A8 h3,A8 (show ¬ 97<=n by omega),A9 (show 48<=n by omega),A9 (show n<=57 by omega)]; rfl
      · by_cases h2:122<n
        · rw [A8 h1,A9 h2,A8 (show ¬ n<48 by omega),A9 (show 57<n by omega),A8 (show ¬ n<=122 by omega),A8 (show ¬ n<=57 by omega),Bool.and_false,Bool.and_false]; rfl
        · rw [A8 h1,A8 h2,A9 (show 97<=n by omega),A9 (show n<=122 by omega)]; rfl
    have e':=e ((x.toNat:Nat):Int);rw [e',obs];show cond (!(loB x||dgB x)) _ _=_;cases loB x||dgB x <;> rfl
  have hS0:A4 (fun s_:Nat=>Bn s s_) (4611686018427387904+1) 0=some (if s.data.toList.all (fun x=>loB x||dgB x) then Ctl.next () else Ctl.out false):=by
    refine Em s.data.toList (fun x=>loB x||dgB x) (Ctl.next ()) (Ctl.out false) (by omega) hstep ?_;unfold Bn;rw [A8 (by omega),cond_false]
  have hS:A4 (fun s_:Nat=>Bn s s_) 4611686018427387904 1=some (if s.data.toList.all (fun x=>loB x||dgB x) then Ctl.next () else Ctl.out false):=by
    rw [← hS0];have h0:Bn s 0=some (Ctl.next 1):=by rw [hstep 0 c hcl,hlo]; rfl
    have hu:∀ n,A4 (fun s_:Nat=>Bn s s_) (n+1) 0=A4 (fun s_:Nat=>Bn s s_) n 1:=fun n=>by
      show (Bn s 0).bind _=_;rw [h0]; rfl
    exact (hu _).symm
  rw [hI,hS,Al0,obs,Avf Uc (by decide) s];generalize (Uc.any fun x=>x.toList==s.toList)=u;cases s.data.toList.all (fun x=>loB x||dgB x) <;> cases u <;> exact ⟨_,rfl,rfl⟩
end Go.Proofs.YtodopnonpadpfaaGreatDoor

namespace Go.Proofs.YtodopnonpadpfaaGreatDoor
abbrev Nd:=Int×Int×ByteArray
abbrev Qb (s:ByteArray):Bool:=s.toList==(⟨#[]⟩:ByteArray).toList
def Aq8 (k v:Int):Bool:=if k=7∨k=13 then inR v 0 96 else v==0
/-- The type of a leaf. -/
def lfW (n:Nd):Option (Int×Int) :=
  if Qb n.2.2=true then
    if n.1=1 then (if 0<=n.2.1∧n.2.1<=12 then some (n.2.1,n.2.1) else none)
    else if n.1=2 then (if n.2.1=0 then some (2,2) else none)
    else if 3<=n.1∧n.1<=14 then (if Aq8 n.1 n.2.1=true then some (gwV n.1) else none)
    else none
  else none
def okW (w:Int×Int):Prop:=(0<=w.1∧w.1<=12)∧(0<=w.2∧w.2<=12)
theorem Au7 (k:Int):okW (gwV k):=by
  unfold gwV
  repeat' split
  all_goals exact ⟨⟨by decide,by decide⟩,⟨by decide,by decide⟩⟩
theorem Avk {n:Nd} {w:Int×Int} (h:lfW n=some w):okW w:=by
  unfold lfW at h;split at h
  · split at h
    · split at h
      · rename_i h1; obtain rfl:=osj h; exact ⟨h1,h1⟩
      · cases h
    · split at h
      · split at h
        · obtain rfl:=osj h; exact ⟨⟨by decide,by decide⟩,⟨by decide,by decide⟩⟩
        · cases h
      · split at h
        · split at h
          · obtain rfl:=osj h; exact Au7 _
          · cases h
        · cases h
  · cases h
theorem Z8 {n:Nd} {w:Int×Int} (h:lfW n=some w):1<=n.1∧n.1<=14:=by
  unfold lfW at h;split at h
  · split at h
    · omega
    · split at h
      · omega
      · split at h
        · omega
        · cases h
  · cases h
/-- One node; the top of the stack is first. -/
def G5 (n:Nd) (T:List (Int×Int)):Option (List (Int×Int)) :=
  if n.1=15∨n.1=16 then
    if n.2.1=0∧Qb n.2.2=true then
      match T with
      | b :: a :: r=>if n.1=15 then (if a.2=b.1 then some ((a.1,b.2) :: r) else none) else (if a.1+b.1<=12∧a.2+b.2<=12 then some ((a.1+b.1,a.2+b.2) :: r) else none)
      | _=>none
    else none
  else (lfW n).map (· :: T)
def Jm:List Nd->List (Int×Int)->Option (List (Int×Int))
  | [],T=>some T
  | n :: r,T=>(G5 n T).bind (Jm r)
def okT (T:List (Int×Int)):Prop:=∀ w∈T,okW w
theorem Us {n:Nd} {T T':List (Int×Int)} (h:G5 n T=some T') (hT:okT T):okT T':=by
  unfold G5 at h;split at h
  · split at h
    · split at h
      · rename_i b a r;have ha:=hT a (by simp);have hb:=hT b (by simp);have hr:okT r:=fun w hw=>hT w (by simp [hw])
        split at h
        · split at h
          · obtain rfl:=osj h;intro w hw;rcases List.mem_cons.1 hw with rfl | hw
            · exact ⟨ha.1,hb.2⟩
            · exact hr w hw
          · cases h
        · split at h
          · rename_i h1;obtain rfl:=osj h;intro w hw;rcases List.mem_cons.1 hw with rfl | hw
            · have:=ha.1; have:=hb.1; have:=ha.2; have:=hb.2;refine ⟨⟨?_,h1.1⟩,⟨?_,h1.2⟩⟩ <;> (try show (0:Int)<=_+_) <;> omega
            · exact hr w hw
          · cases h
      · cases h
    · cases h
  · obtain ⟨w,hw,rfl⟩:=oms.1 h;intro v hv;rcases List.mem_cons.1 hv with rfl | hv
    · exact Avk hw
    · exact hT v hv
theorem Aax:∀ (xs ys:List Nd) (T:List (Int×Int)),Jm (xs++ys) T=(Jm xs T).bind (Jm ys)
  | [],_,_=>rfl
  | n :: r,ys,T=>by
    show (G5 n T).bind (Jm (r++ys))=((G5 n T).bind (Jm r)).bind (Jm ys);cases G5 n T with
    | none=>rfl
    | some T'=>exact Aax r ys T'
theorem Xs {xs:List Nd} {k:Nat} {n:Nd} {T:List (Int×Int)} (h:xs[k]? =some n) (hT:Jm (xs.take k) []=some T):Jm (xs.take (k+1)) []=G5 n T:=by
  rw [List.take_add_one,h,Aax,hT,obs];show (G5 n T).bind (Jm [])=_;cases G5 n T <;> rfl
theorem Xg {xs:List Nd} {k:Nat} (h:Jm (xs.take k) []=none):Jm xs []=none:=by
  rw [← List.take_append_drop k xs,Aax,h]; rfl
theorem Anh {xs:List Nd} {T:List (Int×Int)} (hx:xs≠[]) (h:Jm xs []=some T):T≠[]:=by
  obtain ⟨k,hk⟩:∃ k,xs.length=k+1:=⟨xs.length - 1,by have:=List.length_pos_iff.2 hx; omega⟩
  have hl:xs.take xs.length=xs:=List.take_length;have hn:=gEg (show k<xs.length by omega);cases hp:Jm (xs.take k) [] with
  | none=>rw [Xg hp] at h; cases h
  | some T0 =>
    have h2:=Xs hn hp;rw [← hk,hl,h] at h2;intro e;subst e;unfold G5 at h2;split at h2
    · split at h2
      · split at h2
        · split at h2 <;> split at h2 <;> cases h2
        · cases h2
      · cases h2
    · cases hw:lfW (xs[k]'(by omega)) with
      | none=>rw [hw] at h2; cases h2
      | some w=>rw [hw] at h2; cases h2
/-- The type of a term. -/
def tyV (xs:List Nd):Option (Int×Int) :=
  if 1<=xs.length∧xs.length<=400 then (match Jm xs [] with | some [w]=>some w | _=>none) else none
-- leaves on both sides
theorem Awa (n:Nd):∃ r:Int×Int×Bool,Ee n.1 n.2.1 n.2.2=some r∧match lfW n with | some w=>r=(w.1,w.2,true) | none=>r.2.2=false:=by
  obtain ⟨k,v,s⟩:=n;dsimp only;unfold Ee lfW;dsimp only;cases hs:Qb s
  · have hs':(s.toList==(⟨#[]⟩:ByteArray).toList)=false:=hs;rw [hs']; exact ⟨_,rfl,rfl⟩
  have hs':(s.toList==(⟨#[]⟩:ByteArray).toList)=true:=hs;rw [hs',if_pos rfl,Bool.not_true,cond_false];by_cases h1:k=1
  · subst h1;rw [beq_self_eq_true,cond_true,Kr,if_pos rfl];by_cases h2:0<=v∧v<=12
    · rw [if_pos h2,C6.2 h2]; exact ⟨_,rfl,rfl⟩
    · rw [if_neg h2,show inR v 0 12=false by rw [Bool.eq_false_iff]; intro e; exact h2 (C6.1 e)]; exact ⟨_,rfl,rfl⟩
  rw [beq_eq_false_iff_ne.2 h1,cond_false,if_neg h1];by_cases h2:k=2
  · subst h2;rw [beq_self_eq_true,cond_true,if_pos rfl];by_cases h3:v=0
    · subst h3; exact ⟨_,rfl,rfl⟩
    · rw [if_neg h3,beq_eq_false_iff_ne.2 h3]; exact ⟨_,rfl,rfl⟩
  rw [beq_eq_false_iff_ne.2 h2,cond_false,if_neg h2];unfold Fc;rw [Kr];by_cases h3:3<=k∧k<=14
  · rw [if_pos h3,C6.2 h3,obs,obs,cond_true];unfold Fx Cz Dq;rw [At h3,obs];by_cases h7:k=7∨k=13
    · have e:cond (k==7) (some true) (some (k==13))=some true:=by
        rcases h7 with rfl | rfl <;> rfl
      rw [e,obs,obs,cond_true,Kr,show Aq8 k v=inR v 0 96 from if_pos h7];cases inR v 0 96 <;> exact ⟨_,rfl,rfl⟩
    · have e:cond (k==7) (some true) (some (k==13))=some false:=by
        rw [beq_eq_false_iff_ne.2 (fun e=>h7 (.inl e)),beq_eq_false_iff_ne.2 (fun e=>h7 (.inr e))]; rfl
      rw [e,obs,obs,cond_false,show Aq8 k v=(v==0) from if_neg h7];cases v==0 <;> exact ⟨_,rfl,rfl⟩
  · rw [if_neg h3,show inR k 3 14=false by rw [Bool.eq_false_iff]; intro e; exact h3 (C6.1 e)]; exact ⟨_,rfl,rfl⟩
theorem Ap4 (n:Nd):Ha n.1 n.2.1 n.2.2=some (lfW n).isSome:=by
  obtain ⟨k,v,s⟩:=n;dsimp only;unfold Ha lfW;dsimp only;cases hs:Qb s
  · have hs':(s.toList==(⟨#[]⟩:ByteArray).toList)=false:=hs;rw [hs']; rfl
  have hs':(s.toList==(⟨#[]⟩:ByteArray).toList)=true:=hs;rw [hs',if_pos rfl,Bool.not_true,cond_false,Mm,obs];by_cases h0:1<=k∧k<=14
  · rw [C6.2 h0,obs,Bool.not_true,cond_false];by_cases h1:k=1
    · subst h1;rw [beq_self_eq_true,cond_true,Mm,if_pos rfl];by_cases h2:0<=v∧v<=12
      · rw [if_pos h2,C6.2 h2]; rfl
      · rw [if_neg h2,show inR v 0 12=false by rw [Bool.eq_false_iff]; intro e; exact h2 (C6.1 e)]; rfl
    rw [beq_eq_false_iff_ne.2 h1,cond_false,if_neg h1];by_cases h7:k=7∨k=13
    · have e:cond (k==7) (some (k==7)) (some (k==13))=some true:=by
        rcases h7 with rfl | rfl <;> rfl
      rw [e,obs,cond_true,Mm,if_neg (by omega),if_pos (by omega),show Aq8 k v=inR v 0 96 from if_pos h7];cases inR v 0 96 <;> rfl
    · have e:cond (k==7) (some (k==7)) (some (k==13))=some false:=by
        rw [beq_eq_false_iff_ne.2 (fun e=>h7 (.inl e)),beq_eq_false_iff_ne.2 (fun e=>h7 (.inr e))]; rfl
      rw [e,obs,cond_false];by_cases h2:k=2
      · rw [if_pos h2];by_cases h3:v=0
        · rw [if_pos h3,beq_iff_eq.2 h3]; rfl
        · rw [if_neg h3,beq_eq_false_iff_ne.2 h3]; rfl
      · rw [if_neg h2,if_pos (by omega),show Aq8 k v=(v==0) from if_neg h7];cases v==0 <;> rfl
  · rw [show inR k 1 14=false by rw [Bool.eq_false_iff]; intro e; exact h0 (C6.1 e),if_neg (by omega),if_neg (by omega),if_neg (by omega)]; rfl
theorem Asz {n:Nd} {w:Int×Int} (h:lfW n=some w):Dh n.1 n.2.1 n.2.2=some w:=by
  have hk:=Z8 h;obtain ⟨k,v,s⟩:=n;dsimp only at hk ⊢;unfold lfW at h;dsimp only at h;unfold Dh Hm;split at h
  · split at h
    · rename_i h1;subst h1;split at h
      · obtain rfl:=osj h; rfl
      · cases h
    · rename_i h1;rw [beq_eq_false_iff_ne.2 h1,cond_false];split at h
      · rename_i h2;subst h2;split at h
        · obtain rfl:=osj h; rfl
        · cases h
      · split at h
        · split at h
          · obtain rfl:=osj h;have hk':k=3∨k=4∨k=5∨k=6∨k=7∨k=8∨k=9∨k=10∨k=11∨k=12∨k=13∨k=14:=by omega
            rcases hk' with rfl | rfl | rfl | rfl | rfl | rfl | rfl | rfl | rfl | rfl | rfl | rfl <;> rfl
          · cases h
        · cases h
  · cases h
end Go.Proofs.YtodopnonpadpfaaGreatDoor

namespace Go.Proofs.YtodopnonpadpfaaGreatDoor
theorem Aw8 {a b:Int×Int} {r:List (Int×Int)}:(b :: a :: r).reverse=r.reverse++[a,b]:=by simp
theorem Ato {a b:Int×Int} {r:List (Int×Int)}:(r.reverse++[a,b])[r.length]? =some a∧(r.reverse++[a,b])[r.length+1]? =some b:=by
  constructor
  · rw [List.getElem?_append_right (by simp),List.length_reverse,Nat.sub_self]; rfl
  · rw [List.getElem?_append_right (by simp),List.length_reverse,Nat.add_sub_cancel_left]; rfl
theorem Awc {k:Int} {a b:Int×Int} (ha:okW a) (hb:okW b):Ep k a.1 a.2 b.1 b.2=some (if k=15 then (a.1,b.2,a.2==b.1) else (a.1+b.1,a.2+b.2,decide (a.1+b.1<=12)&&decide (a.2+b.2<=12))):=by
  obtain ⟨⟨a1,a2⟩,a3,a4⟩:=ha;obtain ⟨⟨b1,b2⟩,b3,b4⟩:=hb;unfold Ep Gz;by_cases h:k=15
  · rw [if_pos h,beq_iff_eq.2 h]; rfl
  · rw [if_neg h,beq_eq_false_iff_ne.2 h,cond_false,Bw (n:=a.1+b.1) (by omega) (by omega),Bw (n:=a.2+b.2) (by omega) (by omega)];cases decide (a.1+b.1<=12) <;> rfl
theorem Atz {xs:List Nd} (hx:1<=xs.length∧xs.length<=400):A4 (fun s_:Nat×List (Int×Int)=>Bj xs s_.1 s_.2) 4611686018427387904 (0,[])=some (match Jm xs [] with | some T=>Ctl.next T.reverse | none=>Ctl.out (0,0,false)):=by
  refine Hq xs.length (fun k s=>∃ T,s=(k,T.reverse)∧Jm (xs.take k) []=some T∧okT T∧T.length<=k) (by omega) _ ⟨[],rfl,rfl,(fun _ h=>by cases h),Nat.le_refl _⟩ ?_ ?_
  · rintro k s hk ⟨T,rfl,hT,hok,hlen⟩;have hn:=gEg hk;generalize xs[k]=n at hn;have hnext:=Xs hn hT;have hfail:G5 n T=none->Jm xs []=none:=fun h=>Xg (k:=k+1) (by rw [hnext,h])
    have hlr:T.reverse.length=T.length:=by simp
    try dsimp only
    unfold Bj;rw [A9 (by omega),cond_true,hn,obs];by_cases hj:n.1=15∨n.1=16
    · have e:(cond (n.1 !=15) (some (n.1 !=16)) (some false):Option Bool)=some false:=by
        rcases hj with h | h <;> rw [h] <;> rfl
      rw [e,obs,cond_false];by_cases hv:n.2.1=0∧Qb n.2.2=true
      · have hs':(n.2.2.toList==(⟨#[]⟩:ByteArray).toList)=true:=hv.2;rw [hv.1,hs',show ((0:Int) !=0)=false from rfl,cond_false,Bool.not_true,cond_false,obs,hlr]
        match T,hT,hok,hlen,hnext,hfail with
        | [],hT,hok,hlen,hnext,hfail =>
          refine .inr ?_;rw [hfail (by unfold G5; rw [if_pos hj,if_pos hv]),A9 (by simp),cond_true]; rfl
        | [b],hT,hok,hlen,hnext,hfail =>
          refine .inr ?_;rw [hfail (by unfold G5; rw [if_pos hj,if_pos hv]),A9 (by simp),cond_true]; rfl
        | b :: a :: r,hT,hok,hlen,hnext,hfail =>
          have hb:=hok b (by simp);have ha:=hok a (by simp);have hl2:(b :: a :: r).length=r.length+2:=by simp
          have w1:wI (((r.length+2:Nat):Int) - 1)=((r.length+1:Nat):Int):=by rw [Bw (by omega) (by omega)]; omega
          have w2:wI (((r.length+1:Nat):Int) - 1)=((r.length:Nat):Int):=by rw [Bw (by omega) (by omega)]; omega
          obtain ⟨g1,g2⟩:=Ato (a:=a) (b:=b) (r:=r);rw [hl2,A8 (by omega),cond_false,w1,w2,Aw8,Dk (by omega),Int.toNat_natCast,g1,obs,obs,Dk (by omega),Int.toNat_natCast,g2,obs,obs,Awc ha hb,obs];have htake:(r.reverse++[a,b]).take r.length=r.reverse:=List.take_left' (by simp)
          have hst:G5 n (b :: a :: r)=if n.1=15 then (if a.2=b.1 then some ((a.1,b.2) :: r) else none) else (if a.1+b.1<=12∧a.2+b.2<=12 then some ((a.1+b.1,a.2+b.2) :: r) else none):=by
            unfold G5; rw [if_pos hj,if_pos hv]
          have hfin:∀ w:Int×Int,G5 n (b :: a :: r)=some (w :: r)->∃ s',(Do (og ((0:Int)<=0∧0<=((r.length:Nat):Int)∧((r.length:Nat):Int)<=((r.length+2:Nat):Int)) (og ((((r.reverse++[a,b]).take r.length).length)+1<=1073741824∧((((r.reverse++[a,b]).take r.length).length)+1)*16<=140737488355328) (some (Ctl.next (((r.reverse++[a,b]).take r.length)++([(w.1,w.2)])):Ctl (List (Int×Int)) (Ctl (Nat×(List (Int×Int))) (Ctl (List (Int×Int)) (Int×Int×Bool))))))) fun l14_m6=>og (k+1<4611686018427387904) (some (Ctl.next (k+1,l14_m6))))=some (.next s')∧∃ T,s'=(k+1,T.reverse)∧Jm (xs.take (k+1)) []=some T∧okT T∧T.length<=k+1:=fun w hw=>by
            refine ⟨(k+1,r.reverse++[w]),?_,w :: r,by simp,by rw [hnext,hw],Us hw hok,by simp at hlen ⊢; omega⟩;rw [At (by omega),htake,At (by simp at hlen ⊢; omega)];simp only [Do,obs,Ctl.then];rw [At (by omega)]
          by_cases h15:n.1=15
          · rw [if_pos h15];rw [if_pos h15] at hst;dsimp only;by_cases hab:a.2=b.1
            · rw [if_pos hab] at hst;rw [beq_iff_eq.2 hab,Bool.not_true,cond_false];exact .inl (hfin (a.1,b.2) hst)
            · rw [if_neg hab] at hst;rw [beq_eq_false_iff_ne.2 hab,hfail hst];exact .inr rfl
          · rw [if_neg h15];rw [if_neg h15] at hst;dsimp only;by_cases hab:a.1+b.1<=12∧a.2+b.2<=12
            · rw [if_pos hab] at hst;rw [A9 hab.1,A9 hab.2,Bool.and_true,Bool.not_true,cond_false];exact .inl (hfin (a.1+b.1,a.2+b.2) hst)
            · rw [if_neg hab] at hst
              have e:(decide (a.1+b.1<=12)&&decide (a.2+b.2<=12))=false:=by
                rw [Bool.eq_false_iff]; intro h; simp only [Bool.and_eq_true,decide_eq_true_eq] at h; exact hab h
              rw [e,hfail hst];exact .inr rfl
      · refine .inr ?_;rw [hfail (by unfold G5; rw [if_pos hj,if_neg hv])];by_cases h0:n.2.1=0
        · have hs':(n.2.2.toList==(⟨#[]⟩:ByteArray).toList)=false:=by
            rw [Bool.eq_false_iff]; intro h; exact hv ⟨h0,h⟩
          rw [h0,hs']; rfl
        · rw [show (n.2.1 !=0)=true by rw [bne_iff_ne]; exact h0]; rfl
    · have h15:n.1≠15:=fun e=>hj (.inl e)
      have h16:n.1≠16:=fun e=>hj (.inr e)
      have e:(cond (n.1 !=15) (some (n.1 !=16)) (some false):Option Bool)=some true:=by
        rw [bne_iff_ne.2 h15,cond_true,bne_iff_ne.2 h16]
      rw [e,obs,cond_true];have hst:G5 n T=(lfW n).map (· :: T):=if_neg hj;obtain ⟨r,hr,hm⟩:=Awa n;rw [hr,obs];cases hw:lfW n with
      | none =>
        rw [hw] at hm hst;dsimp only at hm;rw [hm,hfail hst];exact .inr rfl
      | some w =>
        rw [hw] at hm hst;dsimp only at hm;subst hm;refine .inl ⟨(k+1,T.reverse++[w]),?_,w :: T,by simp,by rw [hnext,hst]; rfl,Us hst hok,by simp; omega⟩;rw [Bool.not_true,cond_false,At (by rw [hlr]; omega)];simp only [Do,obs,Ctl.then];rw [At (by omega)]
  · rintro s ⟨T,rfl,hT,hok,hlen⟩;rw [List.take_length] at hT;rw [hT]
    try dsimp only
    unfold Bj;rw [A8 (by omega),cond_false]
theorem An3 (xs:List Nd):∃ r:Int×Int×Bool,Cy xs=some r∧match tyV xs with | some w=>r=(w.1,w.2,true) | none=>r.2.2=false:=by
  unfold Cy Bu tyV;rw [Kr];by_cases hx:1<=xs.length∧xs.length<=400
  · rw [C6.2 (show (1:Int)<=((xs.length:Nat):Int)∧((xs.length:Nat):Int)<=400 by omega),obs,Bool.not_true,cond_false,if_pos hx,Atz hx];cases hr:Jm xs [] with
    | none=>exact ⟨_,rfl,rfl⟩
    | some T =>
      have hne:=Anh (fun e=>by subst e; simp at hx) hr;dsimp only [Do,obs,Ctl.then]
      match T,hne with
      | [w],_=>exact ⟨_,rfl,rfl⟩
      | a :: b :: r,_ =>
        obtain ⟨c,hc⟩:∃ c,(a :: b :: r).reverse[0]? =some c:=⟨_,gEg (by simp)⟩
        rw [hc];refine ⟨_,rfl,?_⟩;show ((((a :: b :: r).reverse.length:Nat):Int)==1)=false;rw [beq_eq_false_iff_ne]; simp; omega
  · rw [if_neg hx,show inR ((xs.length:Nat):Int) 1 400=false by rw [Bool.eq_false_iff]; intro e; have:=C6.1 e; exact hx (by omega)];exact ⟨_,rfl,rfl⟩
end Go.Proofs.YtodopnonpadpfaaGreatDoor

namespace Go.Proofs.YtodopnonpadpfaaGreatDoor
/-- The lists of the reference's pass tell the stack: where each part begins. -/
def SRel (F I O:List Int):Nat->List (Int×Int)->Prop
  | k,[]=>k=0
  | k,w :: T=>∃ j:Nat,j<k∧F[k - 1]? =some (j:Int)∧I[k - 1]? =some w.1∧O[k - 1]? =some w.2∧SRel F I O j T
theorem Ai4 {l:List Int} {k:Nat} {x y:Int} (h:l[k]? =some x):(l++[y])[k]? =some x:=by
  rw [List.getElem?_append_left (gSi.1 h).1]; exact h
theorem SRel.app {F I O:List Int} {x y z:Int}:∀ {T:List (Int×Int)} {k:Nat},SRel F I O k T->SRel (F++[x]) (I++[y]) (O++[z]) k T
  | [],_,h=>h
  | _ :: _,_,⟨j,h1,h2,h3,h4,h5⟩=>⟨j,h1,Ai4 h2,Ai4 h3,Ai4 h4,h5.app⟩
theorem Mq {l:List Int} {k:Nat} {y:Int} (h:l.length=k):(l++[y])[k+1 - 1]? =some y:=by
  subst h;rw [Nat.add_sub_cancel,List.getElem?_append_right (Nat.le_refl _),Nat.sub_self]; rfl
abbrev ScR:=List Int×List Int×List Int×Bool
def Auv (n:Nat) (t:Option (List (Int×Int))) (r:Ctl (List Int×List Int×List Int) ScR):Prop :=
  match t with
  | some T=>∃ F I O,r=Ctl.next (F,I,O)∧F.length=n∧I.length=n∧O.length=n∧okT T∧SRel F I O n T
  | none=>∃ F I O,r=Ctl.out (F,I,O,false)
theorem Awb {xs:List Nd} (hx:1<=xs.length∧xs.length<=400):∃ r,A4 (fun s_:Nat×List Int×List Int×List Int=>Eo xs [] s_.1 s_.2.1 s_.2.2.1 s_.2.2.2) 4611686018427387904 (0,[],[],[])=some r∧Auv xs.length (Jm xs []) r:=by
  refine Km (Post:=Auv xs.length (Jm xs [])) xs.length (fun k s=>∃ F I O T,s=(k,F,I,O)∧F.length=k∧I.length=k∧O.length=k∧Jm (xs.take k) []=some T∧okT T∧SRel F I O k T) (by omega) ⟨[],[],[],[],rfl,rfl,rfl,rfl,rfl,(fun _ h=>by cases h),rfl⟩ ?_ ?_
  · rintro k s hk ⟨F,I,O,T,rfl,lF,lI,lO,hT,hok,hS⟩;have hn:=gEg hk;generalize xs[k]=n at hn;have hnext:=Xs hn hT;have hfail:G5 n T=none->Jm xs []=none:=fun h=>Xg (k:=k+1) (by rw [hnext,h])
    try dsimp only
    unfold Eo;rw [A9 (by omega),cond_true,hn,obs,Ap4,obs];by_cases hj:n.1=15∨n.1=16
    · have hnl:lfW n=none:=by
        cases hw:lfW n with
        | none=>rfl
        | some w=>have:=Z8 hw; omega
      rw [hnl];have e17:(n.1==17)=false:=by rw [beq_eq_false_iff_ne]; omega
      rw [Option.isSome_none,cond_false,e17,obs,cond_false]
      have hst0:G5 n T=if n.2.1=0∧Qb n.2.2=true then (match T with
          | b :: a :: r=>if n.1=15 then (if a.2=b.1 then some ((a.1,b.2) :: r) else none) else (if a.1+b.1<=12∧a.2+b.2<=12 then some ((a.1+b.1,a.2+b.2) :: r) else none)
          | _=>none) else none:=if_pos hj
      have hcond:∀ q:Option Bool,(cond (n.1 !=15) (cond (n.1 !=16) (some true) q) q:Option Bool)=q:=fun q=>by
        rcases hj with h | h <;> rw [h] <;> rfl
      rw [hcond];by_cases hv:n.2.1=0∧Qb n.2.2=true
      · have hs':(n.2.2.toList==(⟨#[]⟩:ByteArray).toList)=true:=hv.2;rw [if_pos hv] at hst0;rw [hv.1,hs',Bool.not_true,cond_false,show ((0:Int) !=0)=false from rfl,cond_false]
        match T,hT,hok,hS,hnext,hfail,hst0 with
        | [],hT,hok,hS,hnext,hfail,hst0 =>
          refine .inr ⟨Ctl.out (F,I,O,false),?_,?_⟩
          · have:k=0:=hS;rw [A9 (by omega)]; rfl
          · rw [hfail hst0]; exact ⟨_,_,_,rfl⟩
        | [b],hT,hok,hS,hnext,hfail,hst0 =>
          refine .inr ⟨Ctl.out (F,I,O,false),?_,?_⟩
          · obtain ⟨j,h1,h2,h3,h4,h5⟩:=hS;have h5:j=0:=h5;subst h5;by_cases h:k<2
            · rw [A9 (by omega)]; rfl
            · have w1:wI ((k:Int) - 1)=((k - 1:Nat):Int):=by rw [Bw (by omega) (by omega)]; omega
              rw [A8 (by omega),cond_false,w1,Dk (by omega),Int.toNat_natCast,h2]; rfl
          · rw [hfail hst0]; exact ⟨_,_,_,rfl⟩
        | b :: a :: r,hT,hok,hS,hnext,hfail,hst0 =>
          have hb:=hok b (by simp);have ha:=hok a (by simp);obtain ⟨⟨b1,b2⟩,b3,b4⟩:=hb;obtain ⟨⟨a1,a2⟩,a3,a4⟩:=ha;obtain ⟨j,h1,h2,h3,h4,j0,g1,g2,g3,g4,g5⟩:=hS;have w1:wI ((k:Int) - 1)=((k - 1:Nat):Int):=by rw [Bw (by omega) (by omega)]; omega
          have w2:wI ((j:Int) - 1)=((j - 1:Nat):Int):=by rw [Bw (by omega) (by omega)]; omega
          have G:∀ (l:List Int) (m:Nat),Fe l ((m:Nat):Int)=l[m]?:=fun l m=>by rw [Dk (by omega),Int.toNat_natCast]
          rw [A8 (by omega),cond_false,w1];simp only [G,h2,h3,h4,obs,w2,g2,g3,g4];rw [A8 (show ¬ ((j:Nat):Int)<1 by omega),cond_false];dsimp only at hst0
          have hfin:∀ w:Int×Int,G5 n (b :: a :: r)=some (w :: r)->∃ s',(Do (some (Ctl.next (F++([(j0:Int)]),I++([w.1]),O++([w.2])):Ctl (List Int×List Int×List Int) (Ctl (Nat×List Int×List Int×List Int) (Ctl (List Int×List Int×List Int) ScR)))) fun q=>og (k+1<4611686018427387904) (some (Ctl.next (k+1,q.1,q.2.1,q.2.2))))=some (.next s')∧∃ F I O T,s'=(k+1,F,I,O)∧F.length=k+1∧I.length=k+1∧O.length=k+1∧Jm (xs.take (k+1)) []=some T∧okT T∧SRel F I O (k+1) T:=fun w hw=>by
            refine ⟨_,?_,F++[(j0:Int)],I++[w.1],O++[w.2],w :: r,rfl,by simp [lF],by simp [lI],by simp [lO],by rw [hnext,hw],Us hw hok,j0,by omega,Mq lF,Mq lI,Mq lO,g5.app⟩;simp only [Do,obs,Ctl.then];rw [At (by omega)]
          by_cases h15:n.1=15
          · rw [if_pos h15] at hst0;rw [beq_iff_eq.2 h15,cond_true];by_cases hab:a.2=b.1
            · rw [if_pos hab] at hst0;rw [show (a.2 !=b.1)=false by rw [hab]; exact bne_self_eq_false _,cond_false];simp only [Do,obs,Ctl.then];rw [A8 (show ¬ 12<a.1 by omega),A8 (show ¬ 12<b.2 by omega),cond_false,obs,cond_false,At (by omega),At (by omega),At (by omega)];exact .inl (hfin (a.1,b.2) hst0)
            · rw [if_neg hab] at hst0;rw [bne_iff_ne.2 hab,hfail hst0];exact .inr ⟨_,rfl,_,_,_,rfl⟩
          · rw [if_neg h15] at hst0;rw [beq_eq_false_iff_ne.2 h15,cond_false,Bw (n:=a.1+b.1) (by omega) (by omega),Bw (n:=a.2+b.2) (by omega) (by omega)];simp only [Do,obs,Ctl.then];by_cases hab:a.1+b.1<=12∧a.2+b.2<=12
            · rw [if_pos hab] at hst0;rw [A8 (show ¬ 12<a.1+b.1 by omega),A8 (show ¬ 12<a.2+b.2 by omega),cond_false,obs,cond_false,At (by omega),At (by omega),At (by omega)];exact .inl (hfin (a.1+b.1,a.2+b.2) hst0)
            · rw [if_neg hab] at hst0;rw [hfail hst0];refine .inr ⟨Ctl.out (F,I,O,false),?_,_,_,_,rfl⟩;by_cases h1:12<a.1+b.1
              · rw [A9 h1]; rfl
              · rw [A8 h1,A9 (show 12<a.2+b.2 by omega)]; rfl
      · rw [if_neg hv] at hst0;refine .inr ⟨Ctl.out (F,I,O,false),?_,?_⟩
        · by_cases hn0:Qb n.2.2=true
          · have hs':(n.2.2.toList==(⟨#[]⟩:ByteArray).toList)=true:=hn0;rw [hs',show (n.2.1 !=0)=true by rw [bne_iff_ne]; exact fun e=>hv ⟨e,hn0⟩]; rfl
          · have hs':(n.2.2.toList==(⟨#[]⟩:ByteArray).toList)=false:=by simpa using hn0
            rw [hs']; rfl
        · rw [hfail hst0]; exact ⟨_,_,_,rfl⟩
    · have hst:G5 n T=(lfW n).map (· :: T):=if_neg hj;cases hw:lfW n with
      | some w =>
        rw [hw] at hst;have hk:=Z8 hw;have e17:(n.1==17)=false:=by rw [beq_eq_false_iff_ne]; omega
        rw [Option.isSome_some,cond_true,obs,cond_true,Asz hw,obs,e17,cond_false];simp only [Do,obs,Ctl.then];rw [At (by omega),At (by omega),At (by omega)];simp only [obs,Ctl.then];rw [At (by omega)];exact .inl ⟨_,rfl,F++[(k:Int)],I++[w.1],O++[w.2],w :: T,rfl,by simp [lF],by simp [lI],by simp [lO],by rw [hnext,hst]; rfl,Us hst hok,k,by omega,Mq lF,Mq lI,Mq lO,hS.app⟩
      | none =>
        rw [hw] at hst;rw [Option.isSome_none,cond_false];refine .inr ⟨Ctl.out (F,I,O,false),?_,?_⟩
        · by_cases h17:n.1=17
          · have har:Dh n.1 n.2.1 n.2.2=some (1,1):=by
              unfold Dh Hm; rw [h17]; rfl
            rw [beq_iff_eq.2 h17,obs,cond_true,har,obs,cond_true]; rfl
          · have h15:n.1≠15:=fun e=>hj (.inl e)
            have h16:n.1≠16:=fun e=>hj (.inr e)
            rw [beq_eq_false_iff_ne.2 h17,obs,cond_false,bne_iff_ne.2 h15,cond_true,bne_iff_ne.2 h16]; rfl
        · rw [hfail hst]; exact ⟨_,_,_,rfl⟩
  · rintro s ⟨F,I,O,T,rfl,lF,lI,lO,hT,hok,hS⟩;rw [List.take_length] at hT;rw [hT]
    try dsimp only
    unfold Eo;rw [A8 (by omega),cond_false];exact ⟨_,rfl,_,_,_,rfl,lF,lI,lO,hok,hS⟩
theorem Aky (xs:List Nd):∃ F I O b,Fs xs=some (F,I,O,b)∧match tyV xs with | some w=>b=true∧I[xs.length - 1]? =some w.1∧O[xs.length - 1]? =some w.2 | none=>b=false:=by
  unfold Fs I5 tyV;rw [Mm];by_cases hx:1<=xs.length∧xs.length<=400
  · rw [C6.2 (show (1:Int)<=((xs.length:Nat):Int)∧((xs.length:Nat):Int)<=400 by omega),obs,Bool.not_true,cond_false,if_pos hx];obtain ⟨r,hr,hP⟩:=Awb hx;rw [hr];cases ht:Jm xs [] with
    | none =>
      rw [ht] at hP;obtain ⟨F,I,O,rfl⟩:=hP;exact ⟨_,_,_,_,rfl,rfl⟩
    | some T =>
      rw [ht] at hP;obtain ⟨F,I,O,rfl,lF,lI,lO,hok,hS⟩:=hP;have hne:=Anh (fun e=>by subst e; simp at hx) ht;have w1:wI (((xs.length:Nat):Int) - 1)=((xs.length - 1:Nat):Int):=by rw [Bw (by omega) (by omega)]; omega
      simp only [Do,obs,Ctl.then]
      match T,hne,hS with
      | w :: T,_,⟨j,h1,h2,h3,h4,h5⟩ =>
        rw [w1,Dk (by omega),Int.toNat_natCast,h2,obs,obs,obs];refine ⟨F,I,O,_,rfl,?_⟩;cases T with
        | nil =>
          have h5:j=0:=h5;subst h5;exact ⟨rfl,h3,h4⟩
        | cons v T =>
          obtain ⟨j',h',_⟩:=h5;show ((j:Int)==0)=false;rw [beq_eq_false_iff_ne]; omega
  · rw [if_neg hx,show inR ((xs.length:Nat):Int) 1 400=false by rw [Bool.eq_false_iff]; intro e; have:=C6.1 e; exact hx (by omega)];exact ⟨_,_,_,_,rfl,rfl⟩
theorem Ake (xs:List Nd):Hb xs=some (match tyV xs with | some w=>(w.1,w.2,true) | none=>(0,0,false)):=by
  unfold Hb;obtain ⟨F,I,O,b,h,hm⟩:=Aky xs;rw [h,obs];cases ht:tyV xs with
  | none=>rw [ht] at hm; dsimp only at hm; subst hm; rfl
  | some w =>
    rw [ht] at hm;obtain ⟨rfl,h1,h2⟩:=hm
    have hx:1<=xs.length∧xs.length<=400:=by
      unfold tyV at ht;split at ht
      · assumption
      · cases ht
    have w1:wI (((xs.length:Nat):Int) - 1)=((xs.length - 1:Nat):Int):=by rw [Bw (by omega) (by omega)]; omega
    dsimp only;rw [Bool.not_true,cond_false,w1,Dk (by omega),Int.toNat_natCast,h1,obs,obs,Dk (by omega),Int.toNat_natCast,h2]; rfl
end Go.Proofs.YtodopnonpadpfaaGreatDoor

namespace Go.Proofs.YtodopnonpadpfaaGreatDoor
def szV (v:Int) (n:Nat):Int:=if v<n then -1 else v - n
theorem Asl (xs:List Int) {v:Int} (hv:0<=v∧v<=1048576) (hx:xs.length<=9223372036854775807):Hl xs v=some (szV v xs.length):=by
  unfold Hl szV;rw [Bw (by omega) (by omega)];by_cases h:v<xs.length
  · rw [A9 (by omega),if_pos h]; rfl
  · rw [A8 (by omega),if_neg h]; rfl
theorem Aqu (xs:List Int) (hx:xs.length<=1073741824):Hs xs=some xs:=by
  unfold Hs;rw [At (by omega)]
  have h:A4 (fun s_:Nat×List Int=>Ew xs s_.1 s_.2) 4611686018427387904 (0,List.replicate xs.length (0:Int))=some xs:=by
    refine B0 xs.length (fun i=>(i,xs.take i++List.replicate (xs.length - i) 0)) (by omega) xs (by simp) (fun i hi=>?_) ?_
    · have hx:=gEg hi
      try dsimp only
      unfold Ew;rw [A9 (by omega),cond_true,hx,obs,W3 hi,obs,At (by omega),W1 hx]
    · try dsimp only
      unfold Ew;rw [A8 (by omega),cond_false];simp
  rw [h]; rfl
theorem Arg (xs:List Int) (hx:xs.length<=1073741824):Ho xs xs=some true:=by
  unfold Ho
  have h:A4 (fun s_:Nat=>E0 xs xs s_) 4611686018427387904 0=some (.next ()):=by
    refine B0 xs.length (fun i=>i) (by omega) _ rfl (fun i hi=>?_) ?_
    · have hx:=gEg hi
      try dsimp only
      unfold E0;rw [A9 (by omega),cond_true,hx,obs,obs,bne_self_eq_false,cond_false,At (by omega)]
    · try dsimp only
      unfold E0;rw [A8 (by omega),cond_false]
  rw [h,bne_self_eq_false,cond_false]; rfl
end Go.Proofs.YtodopnonpadpfaaGreatDoor

namespace Go.Proofs.YtodopnonpadpfaaGreatDoor

section
variable {σ ρ:Type}
end

def Gf (b:Nat) (xss:List (List Int)):Prop:=∀ x∈xss,x.length<=b
def Jf (xss:List (List Int)):Nat:=(xss.map List.length).sum
theorem Apf {xss:List (List Int)} {i:Nat} (h:i<xss.length):Jf (xss.take (i+1))=Jf (xss.take i)+xss[i].length:=by
  unfold Jf;rw [List.take_add_one,gEg h];simp only [Option.toList,List.map_append,List.map_cons,List.map_nil,List.sum_append,List.sum_cons,List.sum_nil,Nat.add_zero]
theorem Apk (xss:List (List Int)) (hn:xss.length<=1048576) (hb:Gf 1048576 xss):Ge xss xss=some true:=by
  unfold Ge
  have h:A4 (fun s_:Nat=>Dx xss xss s_) 4611686018427387904 0=some (.next ()):=by
    refine B0 xss.length (fun i=>i) (by omega) _ rfl (fun i hi=>?_) ?_
    · have hx:=gEg hi;have:=hb _ (List.getElem_mem hi)
      try dsimp only
      unfold Dx;rw [A9 (by omega),cond_true,hx,obs,obs,Arg _ (by omega),obs,Bool.not_true,cond_false,At (by omega)]
    · try dsimp only
      unfold Dx;rw [A8 (by omega),cond_false]
  rw [h,bne_self_eq_false,cond_false]; rfl
/-- What is left of a count when the rows are taken off. -/
def szW (v:Int) (xss:List (List Int)):Int:=if v<xss.length+Jf xss then -1 else v - (xss.length+Jf xss)
theorem Awd {v:Int} {xss:List (List Int)} (hv:v<=1048576) (h:¬ szW v xss<0):xss.length+Jf xss<=1048576∧Gf 1048576 xss∧szW v xss=v - (xss.length+Jf xss):=by
  unfold szW at h ⊢;split at h
  · omega
  rename_i h1;have h2:xss.length+Jf xss<=1048576:=by omega
  refine ⟨h2,fun x hx=>?_,if_neg h1⟩
  have:∀ {l:List (List Int)},x∈l->x.length<=Jf l:=by
    intro l
    induction l with
    | nil=>intro h; cases h
    | cons y r ih =>
      intro h;simp only [Jf,List.map_cons,List.sum_cons] at ih ⊢;rcases List.mem_cons.1 h with rfl | h
      · omega
      · have:=ih h; omega
  have:=this hx;omega
theorem Ao6 (xss:List (List Int)) {v:Int} (hv:0<=v∧v<=1048576) (hn:xss.length<=9223372036854775807) (hb:Gf 9223372036854775807 xss):Gh xss v=some (szW v xss):=by
  unfold Gh;rw [Bw (by omega) (by omega)];by_cases h0:v<xss.length
  · rw [A9 (by omega),szW,if_pos (by omega)]; rfl
  rw [A8 (by omega),cond_false]
  have h:A4 (fun s_:Int×Nat=>D8 xss s_.1 s_.2) 4611686018427387904 (v - xss.length,0)=some (if v<xss.length+Jf xss then .out (-1) else .next (v - (xss.length+Jf xss))):=by
    have hm:∀ i,Jf (xss.take i)<=Jf xss:=fun i=>by
      have:Jf xss=Jf (xss.take i)+Jf (xss.drop i):=by
        conv=>lhs; rw [← List.take_append_drop i xss]
        rw [Jf,List.map_append,List.sum_append]; rfl
      omega
    refine Hq xss.length (fun i s=>s=(v - xss.length - Jf (xss.take i),i)∧(xss.length:Int)+Jf (xss.take i)<=v) (by omega) _ ⟨by simp [Jf],by simp [Jf]; omega⟩ ?_ ?_
    · rintro i s hi ⟨rfl,h1⟩;have hx:=gEg hi;have hr:=hb _ (List.getElem_mem hi);have hs:=Apf hi;have hm1:=hm (i+1)
      try dsimp only
      unfold D8;rw [A9 (by omega),cond_true,hx,obs,Asl _ (by omega) hr,obs,szV];by_cases h2:v - xss.length - Jf (xss.take i)<xss[i].length
      · refine .inr ?_;rw [if_pos h2,if_pos (by omega)]; rfl
      · refine .inl ⟨(v - xss.length - Jf (xss.take (i+1)),i+1),?_,rfl,by omega⟩;rw [if_neg h2,A8 (by omega),cond_false,At (by omega),hs,show v - ↑xss.length - ↑(Jf (List.take i xss)) - ↑xss[i].length=v - ↑xss.length - ↑(Jf (List.take i xss)+xss[i].length) by omega]
    · rintro s ⟨rfl,h1⟩;rw [List.take_length] at h1 ⊢
      try dsimp only
      unfold D8;rw [A8 (by omega),cond_false,if_neg (by omega)];simp [Int.sub_sub]
  rw [h,szW];split <;> rfl
theorem Apt (xss:List (List Int)) (hn:xss.length<=1048576) (hb:Gf 1048576 xss):F3 xss=some xss:=by
  unfold F3;rw [At (by omega)]
  have h:A4 (fun s_:Nat×List (List Int)=>Dy xss s_.1 s_.2) 4611686018427387904 (0,List.replicate xss.length ([]:List Int))=some xss:=by
    refine B0 xss.length (fun i=>(i,xss.take i++List.replicate (xss.length - i) [])) (by omega) xss (by simp) (fun i hi=>?_) ?_
    · have hx:=gEg hi;have hr:=hb _ (List.getElem_mem hi)
      try dsimp only
      unfold Dy;rw [A9 (by omega),cond_true,hx,obs,Aqu _ (by omega),obs,W3 hi,obs,At (by omega),W1 hx]
    · try dsimp only
      unfold Dy;rw [A8 (by omega),cond_false];simp
  rw [h]; rfl
theorem Anj {R:Nat->Prop} {w:World} {t:Ty} {A:Option Addr} {c:Nat} {xss:List (List t.D)} {l:List Addr} (h:Sl R w (.slice t) A c xss l):∀ x∈xss,x.length<=9223372036854775807:=by
  obtain ⟨_,_,f,_,h4⟩:=h;intro x hx;obtain ⟨i,hi,rfl⟩:=List.getElem_of_mem hx;obtain ⟨_,_,_,h5⟩:=h4 (by omega);obtain ⟨A',c',_,h6⟩:=h5 i hi;exact (Aah (xs:=xss[i]) h6).2
end Go.Proofs.YtodopnonpadpfaaGreatDoor

namespace Go.Proofs.YtodopnonpadpfaaGreatDoor

def inV (p:Int) (x:List Int):Prop:=∀ a,a∈x->0<=a∧a<p
def VecW (p:Int) (w:Nat) (x:List Int):Prop:=x.length=w∧inV p x
def MatW (p:Int) (w:Nat) (m:List (List Int)):Prop:=∀ x,x∈m->VecW p w x
def C9 (p k:Int) (v:List Int):List Int:=v.map fun a=>a*k % p
def Ch (p f:Int) (x v:List Int):List Int:=List.zipWith (fun a b=>(a - f*b) % p) x v
def Ct (m:List (List Int)) (c r:Nat):Nat:=r+(m.drop r).findIdx fun x=>x.getD c 0 !=0
def Ij (m:List (List Int)) (r k:Nat):List (List Int):=(m.set r (m.getD k [])).set k (m.getD r [])
def Fu (p:Int) (c r:Nat) (pr:List Int) (m:List (List Int)):List (List Int):=m.mapIdx fun i x=>if i=r then pr else Ch p (x.getD c 0) x pr
def Kn (p a:Int):Int:=(((List.range p.toNat).find? fun (x:Nat)=>a*(x:Int) % p==1).getD 0:Nat)
def prV (p:Int) (c:Nat) (x:List Int):List Int:=C9 p (Kn p (x.getD c 0)) x
def gjS (p:Int) (c:Nat) (s:Nat×List (List Int)):Nat×List (List Int) :=
  if s.1<s.2.length then
    if Ct s.2 c s.1=s.2.length then s
    else (s.1+1,Fu p c s.1 (prV p c (s.2.getD (Ct s.2 c s.1) [])) (Ij s.2 s.1 (Ct s.2 c s.1)))
  else s
def gjT (p:Int) (m:List (List Int)):Nat->Nat×List (List Int)
  | 0=>(0,m)
  | c+1=>gjS p c (gjT p m c)
def gj (p:Int) (n:Nat) (m:List (List Int)):List (List Int):=(gjT p m n).2.take (gjT p m n).1

theorem Ais {p x:Int} (hp:2<=p):0<=x % p∧x % p<p:=⟨Int.emod_nonneg x (by omega),Int.emod_lt_of_pos x (by omega)⟩
theorem Pp {p k:Int} {w:Nat} {x:List Int} (hp:2<=p) (h:x.length=w):VecW p w (C9 p k x) :=
  ⟨by simp [C9,h],fun a ha=>by obtain ⟨b,_,rfl⟩:=List.mem_map.1 ha; exact Ais hp⟩
theorem Ami {α β γ:Type} {f:α->β->γ}:∀ {x:List α} {v:List β} {c:γ},c∈List.zipWith f x v->∃ a b,c=f a b
  | [],_,_,h=>by simp at h
  | _ :: _,[],_,h=>by simp at h
  | a :: x,b :: v,c,h=>by
    rw [List.zipWith_cons_cons,List.mem_cons] at h;rcases h with h | h
    · exact ⟨a,b,h⟩
    · exact Ami h
theorem Ako {p f:Int} {w:Nat} {x v:List Int} (hp:2<=p) (hx:x.length=w) (hv:v.length=w):VecW p w (Ch p f x v) :=
  ⟨by simp [Ch,hx,hv],fun a ha=>by obtain ⟨b,c,rfl⟩:=Ami ha; exact Ais hp⟩
theorem Wx {p:Int} {x v:List Int} (hx:inV p x) (hl:x.length<=v.length):Ch p 0 x v=x:=by
  apply List.ext_getElem
  · simp [Ch]; omega
  · intro i h1 h2;have:=hx x[i] (List.getElem_mem h2);simp only [Ch,List.getElem_zipWith,Int.zero_mul,Int.sub_zero];exact Int.emod_eq_of_lt this.1 this.2
theorem Bq {α:Type} {m:List α} {i:Nat} {d x:α} (h:m[i]? =some x):m.getD i d=x:=by rw [gDg,h]; rfl
theorem Jp {α:Type} {m:List α} {i:Nat} (h:i<m.length):∃ x,m[i]? =some x:=⟨_,gEg h⟩
theorem P8 {m:List (List Int)} {c r:Nat} (h:r<=m.length):Ct m c r<=m.length:=by
  have:=List.findIdx_le_length (xs:=m.drop r) (p:=fun x=>x.getD c 0 !=0);rw [List.length_drop] at this;unfold Ct; omega
theorem Av3 (m:List (List Int)) (c r:Nat):r<=Ct m c r:=by unfold Ct; omega
theorem Abl {m:List (List Int)} {c r i:Nat} (h1:r<=i) (h2:i<Ct m c r) (hr:r<=m.length):(m.getD i []).getD c 0=0:=by
  have hl:=P8 (c:=c) hr;have h3:i - r<(m.drop r).findIdx fun x=>x.getD c 0 !=0:=by unfold Ct at h2; omega
  have h4:i - r<(m.drop r).length:=by rw [List.length_drop]; omega
  have h5:=List.not_of_lt_findIdx h3;rw [List.getElem_drop] at h5
  have e:m[r+(i - r)]'(by rw [List.length_drop] at h4; omega)=m.getD i []:=by
    rw [gDg,gEg (by omega)];simp only [show r+(i - r)=i by omega,Option.getD_some]
  rw [e] at h5
  simpa using h5
theorem Z6 {m:List (List Int)} {c r:Nat} (h:Ct m c r≠m.length) (hr:r<=m.length):(m.getD (Ct m c r) []).getD c 0≠0:=by
  have hl:=P8 (c:=c) hr;have h4:(m.drop r).findIdx (fun x=>x.getD c 0 !=0)<(m.drop r).length:=by rw [List.length_drop]; unfold Ct at h hl; omega
  have h5:=List.findIdx_getElem (w:=h4);rw [List.getElem_drop] at h5
  have e:m[r+(m.drop r).findIdx (fun x=>x.getD c 0 !=0)]'(by rw [List.length_drop] at h4; omega)=m.getD (Ct m c r) []:=by
    rw [gDg,gEg (by omega)]; rfl
  rw [e] at h5
  simpa using h5
theorem N1 (m:List (List Int)) (r k:Nat):(Ij m r k).length=m.length:=by simp [Ij]
theorem Lw (p:Int) (c r:Nat) (pr:List Int) (m:List (List Int)):(Fu p c r pr m).length=m.length:=by simp [Fu]
theorem Hf {m:List (List Int)} {i:Nat} (h:i<m.length):m.getD i []∈m:=by
  rw [gDg,gEg h]; exact List.getElem_mem h
theorem Zh {p:Int} {w:Nat} {m:List (List Int)} {r k:Nat} (h:MatW p w m) (hr:r<m.length) (hk:k<m.length):MatW p w (Ij m r k):=by
  intro x hx;unfold Ij at hx;rcases List.mem_or_eq_of_mem_set hx with hx | rfl
  · rcases List.mem_or_eq_of_mem_set hx with hx | rfl
    · exact h x hx
    · exact h _ (Hf hk)
  · exact h _ (Hf hr)
theorem As7 {p:Int} {w c r:Nat} {m:List (List Int)} {pr:List Int} (hp:2<=p) (h:MatW p w m) (hpr:VecW p w pr):MatW p w (Fu p c r pr m):=by
  intro x hx;unfold Fu at hx;obtain ⟨i,hi,rfl⟩:=List.mem_mapIdx.1 hx;split
  · exact hpr
  · exact Ako hp (h _ (List.getElem_mem hi)).1 hpr.1
theorem Avn {p:Int} {w c:Nat} {s:Nat×List (List Int)} (hp:2<=p) (h:MatW p w s.2) (hr:s.1<=s.2.length):MatW p w (gjS p c s).2∧(gjS p c s).1<=(gjS p c s).2.length∧(gjS p c s).2.length=s.2.length:=by
  unfold gjS;split
  · rename_i h1;split
    · exact ⟨h,hr,rfl⟩
    · rename_i h2;have h3:=P8 (c:=c) hr;have hk:Ct s.2 c s.1<s.2.length:=by omega
      refine ⟨As7 hp (Zh h h1 hk) (Pp hp (h _ (Hf hk)).1),?_,?_⟩
      · simp only [Lw,N1]; omega
      · simp only [Lw,N1]
  · exact ⟨h,hr,rfl⟩
theorem Mh {p:Int} {w:Nat} {m:List (List Int)} (hp:2<=p) (h:MatW p w m):∀ c,MatW p w (gjT p m c).2∧(gjT p m c).1<=(gjT p m c).2.length∧(gjT p m c).2.length=m.length
  | 0=>⟨h,Nat.zero_le _,rfl⟩
  | c+1=>by
    obtain ⟨h1,h2,h3⟩:=Mh hp h c;obtain ⟨k1,k2,k3⟩:=Avn (c:=c) hp h1 h2;exact ⟨k1,k2,k3.trans h3⟩
theorem Aas {p:Int} {m:List (List Int)} {c:Nat} (h:¬ (gjT p m c).1<(gjT p m c).2.length):∀ d,c<=d->gjT p m d=gjT p m c
  | 0, h0 => by obtain rfl : c = 0 := by omega
                rfl
  | d+1,h0=>by
    by_cases e:c=d+1
    · rw [e]
    · have ih:=Aas h d (by omega);show gjS p d (gjT p m d)=_;rw [ih];unfold gjS;rw [if_neg h]
theorem Amj {p:Int} {n w:Nat} {m:List (List Int)} (hp:2<=p) (h:MatW p w m):(gj p n m).length=(gjT p m n).1:=by
  obtain ⟨_,h2,_⟩:=Mh hp h n;unfold gj;rw [List.length_take]; omega
theorem Ar9 {p:Int} {n w:Nat} {m:List (List Int)} (hp:2<=p) (h:MatW p w m):MatW p w (gj p n m):=fun x hx=>(Mh hp h n).1 x (List.mem_of_mem_take hx)
end Go.Proofs.YtodopnonpadpfaaGreatDoor

namespace Go.Proofs.YtodopnonpadpfaaGreatDoor
def Avy (p a:Int):Bool:=match Ib p a with
  | some v=>(v==Kn p a)&&((Gc p a==some v)&&((decide (0<=v)&&decide (v<p))&&(a*v % p==1)))
  | none=>false
def ivB:Bool:=(List.range 98).all fun p=> !(isF p)||(List.range p).all fun a=>a==0||Avy (p:Int) (a:Int)
theorem Art:ivB=true:=by kernel_rfl
theorem Am0 {p a:Int} (hp:isF p=true) (ha:1<=a∧a<p):Ib p a=some (Kn p a)∧Gc p a=some (Kn p a)∧0<=Kn p a∧Kn p a<p∧a*Kn p a % p=1:=by
  have hb:=Iu hp;obtain ⟨q,rfl⟩:=Int.eq_ofNat_of_zero_le (show 0<=p by omega);obtain ⟨b,rfl⟩:=Int.eq_ofNat_of_zero_le (show 0<=a by omega);have h1:=List.all_eq_true.1 Art q (List.mem_range.2 (by omega));rw [hp,Bool.not_true,Bool.false_or] at h1;have h2:=List.all_eq_true.1 h1 b (List.mem_range.2 (by omega))
  have h3:Avy (q:Int) (b:Int)=true:=by
    rcases (Bool.or_eq_true _ _).mp h2 with h | h
    · have:b=0:=by simpa using h
      omega
    · exact h
  unfold Avy at h3;split at h3
  · rename_i v hv;simp only [Bool.and_eq_true,beq_iff_eq,decide_eq_true_eq] at h3;obtain ⟨h4,h5,⟨h6,h7⟩,h8⟩:=h3;subst h4;exact ⟨hv,h5,h6,h7,h8⟩
  · cases h3
end Go.Proofs.YtodopnonpadpfaaGreatDoor

namespace Go.Proofs.YtodopnonpadpfaaGreatDoor

theorem Atq {p x y:Int} (hp:2<=p∧p<=97) (hx:0<=x∧x<p) (hy:0<=y∧y<p):H4 p x y=some ((x - y) % p):=by
  unfold H4;rw [At (by omega),Bw (n:=x+p) (by omega) (by omega),Bw (by omega) (by omega),Int.tmod_eq_emod_of_nonneg (by omega),show x+p - y=x - y+p by omega,Int.add_emod_right]
/-- A loop that writes one row of a matrix anew. -/
theorem Air {ρ:Type} {body:Nat×List (List Int)->Option (Ctl (Nat×List (List Int)) ρ)} {M:List (List Int)} {r:Nat} {x y:List Int} {o:ρ} (hx:M[r]? =some x) (hl:y.length=x.length) (hb:x.length<4611686018427387904)
    (hs:∀ j (h:j<x.length) (z:List Int),z[j]? =some x[j]->body (j,M.set r z)=some (.next (j+1,M.set r (z.set j (y[j]'(by omega)))))) (he:body (x.length,M.set r y)=some (.out o)) :
    A4 body 4611686018427387904 (0,M)=some o:=by
  refine B0 x.length (fun j=>(j,M.set r (y.take j++x.drop j))) hb _ ?_ (fun j hj=>?_) ?_
  · obtain ⟨h1,h2⟩:=gSi.1 hx;simp only [List.take_zero,List.nil_append,List.drop_zero];rw [← h2,List.set_getElem_self]
  · have h1:(y.take j).length=j:=by rw [List.length_take]; omega
    rw [hs j hj _ (M3 hj h1),Nk hj h1,List.take_add_one,gEg (by omega)]; rfl
  · rw [List.drop_length,List.append_nil,← hl,List.take_length,hl]; exact he
/-- A loop that writes a row anew. -/
theorem Aod {ρ:Type} {body:Nat×List Int->Option (Ctl (Nat×List Int) ρ)} {x y:List Int} {o:ρ} (hl:y.length=x.length) (hb:x.length<4611686018427387904)
    (hs:∀ j (h:j<x.length) (z:List Int),z[j]? =some x[j]->body (j,z)=some (.next (j+1,z.set j (y[j]'(by omega))))) (he:body (x.length,y)=some (.out o)) :
    A4 body 4611686018427387904 (0,x)=some o:=by
  refine B0 x.length (fun j=>(j,y.take j++x.drop j)) hb _ rfl (fun j hj=>?_) ?_
  · have h1:(y.take j).length=j:=by rw [List.length_take]; omega
    rw [hs j hj _ (M3 hj h1),Nk hj h1,List.take_add_one,gEg (by omega)]; rfl
  · rw [List.drop_length,List.append_nil,← hl,List.take_length,hl]; exact he
/-- A loop that writes the rows of a matrix anew, one by one, but for row r. -/
theorem As4 {ρ:Type} {body:Nat×List (List Int)->Option (Ctl (Nat×List (List Int)) ρ)} {M E:List (List Int)} {r:Nat} {pr:List Int} {o:ρ} (hl:E.length=M.length) (hM:M[r]? =some pr) (hE:E[r]? =some pr)
    (hb:M.length<4611686018427387904) (hs:∀ i (h:i<M.length) (s:List (List Int)),s.length=M.length->s[i]? =some M[i]->s[r]? =some pr->body (i,s)=some (.next (i+1,s.set i (E[i]'(by omega))))) (he:body (M.length,E)=some (.out o)) :
    A4 body 4611686018427387904 (0,M)=some o:=by
  refine B0 M.length (fun j=>(j,E.take j++M.drop j)) hb _ rfl (fun j hj=>?_) ?_
  · have h1:(E.take j).length=j:=by rw [List.length_take]; omega
    rw [hs j hj _ (by simp; omega) (M3 hj h1) ?_,Nk hj h1,List.take_add_one,gEg (by omega)]; rfl;by_cases h2:r<j
    · rw [List.getElem?_append_left (by omega),List.getElem?_take,if_pos h2]; exact hE
    · rw [List.getElem?_append_right (by omega),h1,List.getElem?_drop,show j+(r - j)=r by omega]; exact hM
  · rw [List.drop_length,List.append_nil,← hl,List.take_length,hl]; exact he
theorem Qm {α:Type} {m:List α} {i:Nat} {x z:α} (h:m[i]? =some x):(m.set i z)[i]? =some z:=by
  rw [List.getElem?_set_self (Av h)]
theorem Kt {α:Type} {m:List α} {i:Nat} {x:α} (h:m[i]? =some x):m.set i x=m:=by
  obtain ⟨h1,h2⟩:=gSi.1 h;rw [← h2,List.set_getElem_self]
theorem Amy {α:Type} {m:List α} {i j:Nat} {z:α} (h:i≠j):(m.set i z)[j]? =m[j]?:=List.getElem?_set_ne h
theorem Ajw {p k:Int} {x:List Int} {j:Nat} (h:j<(C9 p k x).length):(C9 p k x)[j]=x[j]'(by simpa [C9] using h)*k % p:=by simp [C9]
theorem Aks {p f:Int} {x v:List Int} {j:Nat} (h:j<(Ch p f x v).length):(Ch p f x v)[j]=(x[j]'(by simp [Ch] at h; omega) - f*v[j]'(by simp [Ch] at h; omega)) % p:=by simp [Ch]
theorem L7 {p:Int} {c r:Nat} {pr:List Int} {m:List (List Int)} {i:Nat} (h:i<(Fu p c r pr m).length) :
    (Fu p c r pr m)[i]=if i=r then pr else Ch p ((m[i]'(by simpa [Fu] using h)).getD c 0) (m[i]'(by simpa [Fu] using h)) pr:=by simp [Fu]
theorem O5 {p:Int} {w j:Nat} {x:List Int} (hx:VecW p w x) (hj:j<x.length):0<=x[j]∧x[j]<p:=hx.2 _ (List.getElem_mem hj)
theorem Dm {p:Int} {w j:Nat} {x:List Int} (hx:VecW p w x) (hj:j<w):0<=x.getD j 0∧x.getD j 0<p∧x[j]? =some (x.getD j 0):=by
  have h:j<x.length:=by rw [hx.1]; exact hj
  have e:x[j]? =some x[j]:=gEg h;rw [Bq e];exact ⟨(O5 hx h).1,(O5 hx h).2,e⟩
theorem Ate {p f a b:Int}:(a - f*b % p) % p=(a - f*b) % p:=by rw [Int.sub_emod_emod]
section
variable {p:Int} {w:Nat} {m:List (List Int)}
theorem Aov {r:Nat} {x:List Int} {k:Int} (hp:2<=p∧p<=97) (hx:VecW p w x) (hw:w<=100000) (hr:m[r]? =some x) (hk:0<=k∧k<p) :
    A4 (fun s_:Nat×List (List Int)=>Df x r p k s_.1 s_.2) 4611686018427387904 (0,m)=some (m.set r (C9 p k x)):=by
  have hl:=hx.1;refine Air hr (y:=C9 p k x) (by simp [C9]) (by omega) (fun j hj z hz=>?_) ?_
  · have hv:=O5 hx hj
    try dsimp only
    unfold Df;rw [A9 (by omega),cond_true,Qm hr,obs,hz,obs,Aoi hp hv hk,obs,At (by omega),List.set_set,Ajw]
  · try dsimp only
    unfold Df;rw [A8 (by omega),cond_false]
theorem Aqg {i r:Nat} {x v:List Int} {f:Int} (hp:2<=p∧p<=97) (hx:VecW p w x) (hv:VecW p w v) (hw:w<=100000) (hi:m[i]? =some x) (hr:m[r]? =some v) (hn:i≠r) (hf:0<=f∧f<p) :
    A4 (fun s_:Nat×List (List Int)=>De x i r p f s_.1 s_.2) 4611686018427387904 (0,m)=some (m.set i (Ch p f x v)):=by
  have hl:=hx.1;have hl':=hv.1;refine Air hi (y:=Ch p f x v) (by simp [Ch]; omega) (by omega) (fun j hj z hz=>?_) ?_
  · have h1:=O5 hx hj;have h2:=O5 hv (j:=j) (by omega)
    try dsimp only
    unfold De
    rw [A9 (by omega),cond_true,Qm hi,obs,hz,obs,Amy hn,hr,obs,gEg (show j<v.length by omega),obs,Aoi hp hf h2,obs,
      Atq hp h1 (Ais hp.1),obs,At (by omega),List.set_set,Aks,Ate]
  · try dsimp only
    unfold De;rw [A8 (by omega),cond_false]
theorem Akg {c r:Nat} {pr:List Int} (h:r<m.length):(Fu p c r pr m)[r]? =some pr:=by
  rw [gEg (by rw [Lw]; exact h),L7,if_pos rfl]
theorem Are {M0:List (List Int)} {c r:Nat} {pr:List Int} (hp:2<=p∧p<=97) (hm:MatW p w m) (hw:w<=100000) (hl:m.length<=100000) (hr:m[r]? =some pr) (hc:c<w) (h0:M0.length=m.length) :
    A4 (fun s_:Nat×List (List Int)=>Di M0 r c p s_.1 s_.2) 4611686018427387904 (0,m)=some (Fu p c r pr m):=by
  refine As4 (E:=Fu p c r pr m) (Lw ..) hr (Akg (Av hr)) (by omega) (fun i hi s hs h1 h2=>?_) ?_
  · have hx:=hm _ (List.getElem_mem hi);have hv:=hm _ (List.mem_of_getElem? hr);obtain ⟨g1,g2,g3⟩:=Dm hx hc;generalize hxe:m[i]=x at *
    try dsimp only
    unfold Di;rw [A9 (by omega),cond_true,L7,hxe];by_cases hir:i=r
    · subst hir;rw [if_pos rfl,show (((i:Nat):Int)==((i:Nat):Int))=true from beq_self_eq_true _,cond_true,obs,cond_true,obs,At (by omega),Kt h2]
    · rw [if_neg hir,show (((i:Nat):Int)==((r:Nat):Int))=false from by rw [beq_eq_false_iff_ne]; omega,cond_false,h1,obs,g3,obs,obs];by_cases h0:x.getD c 0=0
      · rw [h0,show ((0:Int)==0)=true from rfl,cond_true,obs,At (by omega),Wx hx.2 (by rw [hx.1,hv.1]; exact Nat.le_refl _),Kt h1]
      · rw [show (x.getD c 0==0)=false from beq_eq_false_iff_ne.2 h0,cond_false,obs,g3,obs,Aqg hp hx hv hw h1 h2 hir ⟨g1,g2⟩,obs,At (by omega)]
  · try dsimp only
    unfold Di;rw [A8 (by omega),cond_false]
theorem Aon {c r:Nat} {pr y:List Int}:Fu p c r pr (m.set r y)=Fu p c r pr m:=by
  apply List.ext_getElem
  · rw [Lw,Lw,List.length_set]
  · intro i h1 h2;rw [L7,L7];by_cases h:i=r
    · rw [if_pos h,if_pos h]
    · rw [if_neg h,if_neg h];simp only [List.getElem_set,if_neg (fun e=>h (Eq.symm e))]
theorem As3 {c r:Nat} (hm:MatW p w m) (hc:c<w) (hl:m.length<=100000) (hr:r<=m.length) :
    A4 (fun s_:Nat=>Cn m c s_) 4611686018427387904 r=some (Ct m c r):=by
  have hle:=P8 (c:=c) hr;refine B0 ((m.drop r).findIdx fun x=>x.getD c 0 !=0) (fun t=>r+t) (by unfold Ct at hle; omega) _ rfl (fun t ht=>?_) ?_
  · have h1:r+t<Ct m c r:=by unfold Ct; omega
    have h0:=Abl (i:=r+t) (by omega) h1 hr;obtain ⟨x,hx⟩:=Jp (show r+t<m.length by omega);obtain ⟨g1,g2,g3⟩:=Dm (hm _ (List.mem_of_getElem? hx)) hc;rw [Bq hx] at h0
    try dsimp only
    unfold Cn;rw [A9 (by omega),cond_true,hx,obs,g3,obs,obs,h0,show ((0:Int)==0)=true from rfl,cond_true,At (by omega),Nat.add_assoc]
  · show Cn m c (Ct m c r)=_;unfold Cn;by_cases h:Ct m c r=m.length
    · rw [A8 (by omega),cond_false,obs,cond_false]
    · have h0:=Z6 h hr;obtain ⟨x,hx⟩:=Jp (show Ct m c r<m.length by omega);obtain ⟨g1,g2,g3⟩:=Dm (hm _ (List.mem_of_getElem? hx)) hc;rw [Bq hx] at h0;rw [A9 (by omega),cond_true,hx,obs,g3,obs,obs,beq_eq_false_iff_ne.2 h0,cond_false]
theorem Arz {r k:Nat} (hr:r<m.length) (hk:k<m.length):(Ij m r k)[r]? =some (m.getD k []):=by
  unfold Ij;by_cases h:r=k
  · subst h;rw [List.getElem?_set_self (by rw [List.length_set]; exact hr)]
  · rw [List.getElem?_set_ne (Ne.symm h),List.getElem?_set_self hr]
theorem Aqd {n:Nat} (hp:isF p=true) (hm:MatW p w m) (hn:n<=w) (hw:w<=100000) (hl:m.length<=100000) :
    A4 (fun s_:Nat×Nat×List (List Int)=>B7 (n:Int) p s_.1 s_.2.1 s_.2.2) 4611686018427387904 (0,0,m)=some (gjT p m n):=by
  have hb:=Iu hp;refine Hq n (fun c s=>s=((gjT p m c).1,c,(gjT p m c).2)) (by omega) _ rfl (fun c s hc hI=>?_) (fun s hI=>?_)
  · subst hI;obtain ⟨hm',hr,hl'⟩:=Mh hb.1 hm c;by_cases hlt:(gjT p m c).1<(gjT p m c).2.length
    · refine .inl ?_;refine ⟨_,?_,rfl⟩;show B7 _ _ _ _ _=some (Ctl.next ((gjS p c (gjT p m c)).1,c+1,(gjS p c (gjT p m c)).2));generalize gjT p m c=s at *;obtain ⟨r,M⟩:=s
      try dsimp only at *
      unfold B7 gjS;rw [A9 (by omega),cond_true,obs,A9 (by omega),cond_true,As3 hm' (by omega) (by omega) hr,obs,if_pos hlt];by_cases hk:Ct M c r=M.length
      · rw [hk,beq_self_eq_true,cond_true,obs,if_pos rfl];exact At (by omega) _
      · have hle:=P8 (c:=c) hr;have hkl:Ct M c r<M.length:=by omega
        rw [show (((Ct M c r:Nat):Int)==((M.length:Nat):Int))=false from by rw [beq_eq_false_iff_ne]; omega,cond_false,if_neg hk];have hnz:=Z6 hk hr;obtain ⟨x,hx⟩:=Jp hlt;obtain ⟨y,hy⟩:=Jp hkl;have hyM:=hm' _ (List.mem_of_getElem? hy);obtain ⟨g1,g2,g3⟩:=Dm hyM (show c<w by omega);rw [Bq hy] at hnz;obtain ⟨i1,_,i2,i3,_⟩:=Am0 hp (a:=y.getD c 0) (by omega);have hs:=Arz hlt hkl;have hpm:=Zh hm' hlt hkl;have hsl:=N1 M r (Ct M c r);have hsw:(M.set r y).set (Ct M c r) x=Ij M r (Ct M c r):=by unfold Ij; rw [Bq hx,Bq hy]
        rw [hx,obs,hy,obs,hsw,Bq hy];rw [Bq hy] at hs;generalize Ij M r (Ct M c r)=W at *;have hpr:VecW p w (C9 p (Kn p (y.getD c 0)) y):=Pp hb.1 hyM.1
        rw [hs,obs,g3,obs,i1,obs,Aov hb hyM hw hs ⟨i2,i3⟩,obs,
          Are hb (w:=w) (m:=W.set r (C9 p (Kn p (y.getD c 0)) y)) (pr:=C9 p (Kn p (y.getD c 0)) y) (fun z hz=>?_) hw (by rw [List.length_set]; omega) (Qm hs) (by omega) rfl,obs,At (by omega),obs,Aon]
        · exact At (by omega) _
        · rcases List.mem_or_eq_of_mem_set hz with hz | rfl
          · exact hpm _ hz
          · exact hpr
    · refine .inr ?_;rw [Aas hlt n (by omega)];generalize gjT p m c=s at *
      try dsimp only
      unfold B7;rw [A9 (by omega),cond_true,obs,A8 (by omega),cond_false]
  · subst hI
    try dsimp only
    unfold B7;rw [A8 (by omega),cond_false,obs,cond_false]
theorem At6 (hm:MatW p w m) (hw:w<=100000) (hl:m.length<=100000) :
    A4 (fun s_:Nat×List (List Int)=>Co m s_.1 s_.2) 4611686018427387904 (0,([]:List (List Int)))=some m:=by
  have h:=Agq (body:=fun s_:Nat×List (List Int)=>Co m s_.1 s_.2) m id [] (F:=4611686018427387904) (by omega) m (fun i x h=>?_) ?_
  · simpa using h
  · have:=Av h;have hx:=(hm x (List.mem_of_getElem? h)).1
    try dsimp only
    unfold Co;rw [A9 (by omega),cond_true,h,obs,Atn _ (by omega),obs,At (by simp; omega),At (by omega)]; rfl
  · try dsimp only
    unfold Co;rw [A8 (by omega),cond_false,List.map_id,List.nil_append]
theorem Amc {n:Nat} (hp:isF p=true) (hm:MatW p w m) (hn:n<=w) (hw:w<=100000) (hl:m.length<=100000):Fo p (n:Int) m=some (gj p n m):=by
  have hb:=Iu hp;obtain ⟨_,h2,h3⟩:=Mh hb.1 hm n;unfold Fo;rw [At6 hm hw hl,obs,Aqd hp hm hn hw hl,obs];exact At (by omega) _
end
end Go.Proofs.YtodopnonpadpfaaGreatDoor

namespace Go.Proofs.YtodopnonpadpfaaGreatDoor

/-- A loop that writes the rows of two matrices anew, one by one, but for row r. -/
theorem Ar5 {ρ:Type} {body:Nat×List (List Int)×List (List Int)->Option (Ctl (Nat×List (List Int)×List (List Int)) ρ)} {M E A B:List (List Int)} {r:Nat} {pr pa:List Int} {o:ρ}
    (hl:E.length=M.length) (hA:A.length=M.length) (hB:B.length=M.length) (hM:M[r]? =some pr) (hE:E[r]? =some pr) (hM':A[r]? =some pa) (hE':B[r]? =some pa) (hb:M.length<4611686018427387904)
    (hs:∀ i (h:i<M.length) (s t:List (List Int)),s.length=M.length->t.length=M.length->s[i]? =some M[i]->t[i]? =some (A[i]'(by omega))->s[r]? =some pr->t[r]? =some pa ->
      body (i,s,t)=some (.next (i+1,s.set i (E[i]'(by omega)),t.set i (B[i]'(by omega))))) (he:body (M.length,E,B)=some (.out o)) :
    A4 body 4611686018427387904 (0,M,A)=some o:=by
  have hr:∀ {M E:List (List Int)} {pr:List Int} {j:Nat},(E.take j).length=j->M[r]? =some pr->E[r]? =some pr->(E.take j++M.drop j)[r]? =some pr:=by
    intro M E pr j h1 hM hE;by_cases h2:r<j
    · rw [List.getElem?_append_left (by omega),List.getElem?_take,if_pos h2]; exact hE
    · rw [List.getElem?_append_right (by omega),h1,List.getElem?_drop,show j+(r - j)=r by omega]; exact hM
  refine B0 M.length (fun j=>(j,E.take j++M.drop j,B.take j++A.drop j)) hb _ rfl (fun j hj=>?_) ?_
  · have h1:(E.take j).length=j:=by rw [List.length_take]; omega
    have h2:(B.take j).length=j:=by rw [List.length_take]; omega
    rw [hs j hj _ _ (by simp; omega) (by simp; omega) (M3 hj h1) (M3 (by omega) h2) (hr h1 hM hE) (hr h2 hM' hE'),Nk hj h1,Nk (by omega) h2,List.take_add_one,gEg (by omega),List.take_add_one,gEg (by omega)]; rfl
  · rw [List.drop_length,List.append_nil,← hl,List.take_length,hl,← hA,List.drop_length,List.append_nil,hA,← hB,List.take_length,hB]; exact he
theorem VecW.tk {p:Int} {w u:Nat} {x:List Int} (h:VecW p w x) (hu:u<=w):VecW p u (x.take u):=⟨by rw [List.length_take,h.1]; omega,fun a ha=>h.2 a (List.mem_of_mem_take ha)⟩
theorem VecW.dr {p:Int} {w u:Nat} {x:List Int} (h:VecW p w x):VecW p (w - u) (x.drop u):=⟨by rw [List.length_drop,h.1],fun a ha=>h.2 a (List.mem_of_mem_drop ha)⟩
theorem MatW.tk {p:Int} {w u:Nat} {m:List (List Int)} (h:MatW p w m) (hu:u<=w):MatW p u (m.map (·.take u)):=fun x hx=>by
  obtain ⟨y,hy,rfl⟩:=List.mem_map.1 hx;exact (h y hy).tk hu
theorem MatW.dr {p:Int} {w u:Nat} {m:List (List Int)} (h:MatW p w m):MatW p (w - u) (m.map (·.drop u)):=fun x hx=>by
  obtain ⟨y,hy,rfl⟩:=List.mem_map.1 hx;exact (h y hy).dr
section
variable {p:Int} {w:Nat} {m:List (List Int)}
theorem Ach {x v:List Int} {f:Int} (hp:2<=p∧p<=97) (hx:VecW p w x) (hv:VecW p w v) (hw:w<=100000) (hf:0<=f∧f<p) :
    Dp p x (wI (0 - f)) v=some (Ch p f x v):=by
  have hl:=hx.1;have hl':=hv.1;unfold Dp;refine Aod (y:=Ch p f x v) (by simp [Ch]; omega) (by omega) (fun j hj z hz=>?_) ?_
  · have h1:=O5 hx hj;have h2:=O5 hv (j:=j) (by omega);have h3:=Ahr hp hf h2;have e:(0 - f)*v[j]= -(f*v[j]):=by rw [Int.zero_sub,Int.neg_mul]
    try dsimp only
    unfold E8;rw [A9 (by omega),cond_true,gEg (show j<v.length by omega),obs,hz,obs,Bw (n:=0 - f) (by omega) (by omega),e,Bw (n:= -(f*v[j])) (by omega) (by omega),Bw (by omega) (by omega),Aws hp,obs,At (by omega),Aks]; rfl
  · try dsimp only
    unfold E8;rw [A8 (by omega),cond_false]
theorem Aj2 {r k:Nat} {x y:List Int} {b:Int} (hr:m[r]? =some x) (hk:m[k]? =some y):Bb 0 (r:Int) (k:Int) b p m=some (Ij m r k):=by
  unfold Bb Ij;rw [show ((0:Int)==0)=true from rfl,cond_true,Dk (by omega),Int.toNat_natCast,hk,obs,Dk (by omega),Int.toNat_natCast,hr,obs,Bq hr,Bq hk]
theorem Alc {r:Nat} {x:List Int} {a b:Int} (hp:isF p=true) (hx:VecW p w x) (hw:w<=100000) (hr:m[r]? =some x) (ha:1<=a∧a<p) :
    Bb 1 (r:Int) b a p m=some (m.set r (C9 p (Kn p a) x)):=by
  obtain ⟨_,i1,i2,i3,_⟩:=Am0 hp ha;have hb:=Iu hp;have hl:=hx.1;unfold Bb;rw [show ((1:Int)==0)=false from rfl,cond_false,show ((1:Int)==1)=true from rfl,cond_true,i1,obs,Dk (by omega),Int.toNat_natCast,hr,obs];refine Air hr (y:=C9 p (Kn p a) x) (by simp [C9]) (by omega) (fun j hj z hz=>?_) ?_
  · have hv:=O5 hx hj;have h3:=Ahr hb hv ⟨i2,i3⟩
    try dsimp only
    unfold B4;rw [A9 (by omega),cond_true,Dk (by omega),Int.toNat_natCast,Qm hr,obs,At (by omega),hz,obs,At (by omega),At (by omega),List.set_set,Ajw,Bw (by omega) (by omega),Int.tmod_eq_emod_of_nonneg (by omega)]
  · try dsimp only
    unfold B4;rw [A8 (by omega),cond_false]
theorem Ak4 {i r:Nat} {x v:List Int} {f:Int} (hp:2<=p∧p<=97) (hx:VecW p w x) (hv:VecW p w v) (hw:w<=100000) (hi:m[i]? =some x) (hr:m[r]? =some v) (hn:i≠r) (hf:0<=f∧f<p) :
    Bb 2 (i:Int) (r:Int) f p m=some (m.set i (Ch p f x v)):=by
  have hl:=hx.1;have hl':=hv.1;unfold Bb
  rw [show ((2:Int)==0)=false from rfl,cond_false,show ((2:Int)==1)=false from rfl,cond_false,show ((2:Int)==2)=true from rfl,cond_true,Dk (by omega),Int.toNat_natCast,hi,obs,Dk (by omega),Int.toNat_natCast,hr,obs,
    At hn,Ach hp hx hv hw hf,obs,At (by simp [Ch]; omega)]
theorem Akj {r:Nat} (hr:r<m.length):Ij m r r=m:=by
  obtain ⟨x,hx⟩:=Jp hr;unfold Ij;rw [Bq hx,List.set_set,Kt hx]
theorem At1 {A:List (List Int)} {r k:Nat} (hA:A.length=m.length) (hr:r<m.length) (hk:k<m.length):Bi 0 (r:Int) (k:Int) 0 p m A=some (Ij m r k,Ij A r k):=by
  unfold Bi;by_cases h:r=k
  · subst h;rw [beq_self_eq_true,cond_true,Akj hr,Akj (by omega)]
  · obtain ⟨x,hx⟩:=Jp hr;obtain ⟨y,hy⟩:=Jp hk;obtain ⟨x',hx'⟩:=Jp (show r<A.length by omega);obtain ⟨y',hy'⟩:=Jp (show k<A.length by omega);rw [show ([(0:Int),(r:Int),(k:Int),0]==[0,(r:Int),(r:Int),0])=false from by rw [beq_eq_false_iff_ne]; intro e; simp at e; omega,cond_false,Aj2 hx hy,obs,At (N1 ..),Aj2 hx' hy',obs,At (N1 ..)]
theorem Asq {A:List (List Int)} {w' r:Nat} {x y:List Int} {a:Int} (hp:isF p=true) (hx:VecW p w x) (hy:VecW p w' y) (hw:w<=100000) (hw':w'<=100000) (hr:m[r]? =some x) (hA:A[r]? =some y) (ha:1<=a∧a<p) :
    Bi 1 (r:Int) 0 a p m A=some (m.set r (C9 p (Kn p a) x),A.set r (C9 p (Kn p a) y)):=by
  unfold Bi;rw [show ([(1:Int),(r:Int),0,a]==[0,(r:Int),(r:Int),0])=false from by rw [beq_eq_false_iff_ne]; intro e; simp at e,cond_false,Alc hp hx hw hr ha,obs,At (List.length_set ..),Alc hp hy hw' hA ha,obs,At (List.length_set ..)]
theorem Asw {A:List (List Int)} {w' i r:Nat} {x v y u:List Int} {f:Int} (hp:2<=p∧p<=97) (hx:VecW p w x) (hv:VecW p w v) (hy:VecW p w' y) (hu:VecW p w' u) (hw:w<=100000) (hw':w'<=100000)
    (hi:m[i]? =some x) (hr:m[r]? =some v) (hi':A[i]? =some y) (hr':A[r]? =some u) (hn:i≠r) (hf:0<=f∧f<p) :
    Bi 2 (i:Int) (r:Int) f p m A=some (m.set i (Ch p f x v),A.set i (Ch p f y u)):=by
  unfold Bi;rw [show ([(2:Int),(i:Int),(r:Int),f]==[0,(i:Int),(i:Int),0])=false from by rw [beq_eq_false_iff_ne]; intro e; simp at e,cond_false,Ak4 hp hx hv hw hi hr hn hf,obs,At (List.length_set ..),Ak4 hp hy hu hw' hi' hr' hn hf,obs,At (List.length_set ..)]
def Vr (p:Int) (c r:Nat) (pa:List Int) (M A:List (List Int)):List (List Int):=A.mapIdx fun i x=>if i=r then pa else Ch p ((M.getD i []).getD c 0) x pa
theorem Qf {c r:Nat} {pa:List Int} {M A:List (List Int)} {i:Nat} (h:i<(Vr p c r pa M A).length) :
    (Vr p c r pa M A)[i]=if i=r then pa else Ch p ((M.getD i []).getD c 0) (A[i]'(by simpa [Vr] using h)) pa:=by simp [Vr]
theorem Asd {M0:List (List Int)×List (List Int)} {A:List (List Int)} {w' c r:Nat} {pr pa:List Int} (hp:2<=p∧p<=97) (hm:MatW p w m) (hA:MatW p w' A) (hlA:A.length=m.length) (hw:w<=100000) (hw':w'<=100000) (hl:m.length<=100000)
    (hr:m[r]? =some pr) (hr':A[r]? =some pa) (hc:c<w) (h0:M0.1.length=m.length) :
    A4 (fun s_:Nat×List (List Int)×List (List Int)=>C3 M0 r c p s_.1 s_.2.1 s_.2.2) 4611686018427387904 (0,m,A)=some (Fu p c r pr m,Vr p c r pa m A):=by
  have hla:(Vr p c r pa m A).length=m.length:=by simp [Vr,hlA]
  have hr2:=Av hr;refine Ar5 (E:=Fu p c r pr m) (B:=Vr p c r pa m A) (Lw ..) hlA hla hr (Akg hr2) hr' ?_ (by omega) (fun i hi s t hs ht h1 k1 h2 k2=>?_) ?_
  · rw [gEg (by omega),Qf,if_pos rfl]
  · have hx:=hm _ (List.getElem_mem hi);have hy:=hA _ (List.getElem_mem (show i<A.length by omega));have hv:=hm _ (List.mem_of_getElem? hr);have hu:=hA _ (List.mem_of_getElem? hr');obtain ⟨g1,g2,g3⟩:=Dm hx hc;have hD:m.getD i []=m[i]:=Bq (gEg hi)
    try dsimp only
    unfold C3;rw [A9 (by omega),cond_true,L7,Qf,hD];generalize m[i]=x at *;generalize A[i]=y at *;by_cases hir:i=r
    · subst hir;rw [if_pos rfl,if_pos rfl,show (((i:Nat):Int) !=((i:Nat):Int))=false from bne_self_eq_false _,cond_false,obs,cond_false,obs,Kt h2,Kt k2];exact At (by omega) _
    · rw [if_neg hir,if_neg hir,show (((i:Nat):Int) !=((r:Nat):Int))=true from by rw [bne_iff_ne]; omega,cond_true,h1,obs,g3,obs,obs];by_cases h0:x.getD c 0=0
      · rw [h0,show ((0:Int) !=0)=false from rfl,cond_false,obs,Wx hx.2 (by rw [hx.1,hv.1]; exact Nat.le_refl _),Wx hy.2 (by rw [hy.1,hu.1]; exact Nat.le_refl _),Kt h1,Kt k1];exact At (by omega) _
      · rw [show (x.getD c 0 !=0)=true from bne_iff_ne.2 h0,cond_true,obs,g3,obs,Asw hp hx hv hy hu hw hw' h1 h2 k1 k2 hir ⟨g1,g2⟩,obs,obs];exact At (by omega) _
  · try dsimp only
    unfold C3;rw [A8 (by omega),cond_false]
theorem Aug {c r:Nat} (hm:MatW p w m) (hc:c<w) (hl:m.length<=100000) (hr:r<=m.length) :
    A4 (fun s_:Nat=>Cb m c s_) 4611686018427387904 r=some (Ct m c r):=by
  have hle:=P8 (c:=c) hr;refine B0 ((m.drop r).findIdx fun x=>x.getD c 0 !=0) (fun t=>r+t) (by unfold Ct at hle; omega) _ rfl (fun t ht=>?_) ?_
  · have h1:r+t<Ct m c r:=by unfold Ct; omega
    have h0:=Abl (i:=r+t) (by omega) h1 hr;obtain ⟨x,hx⟩:=Jp (show r+t<m.length by omega);obtain ⟨g1,g2,g3⟩:=Dm (hm _ (List.mem_of_getElem? hx)) hc;rw [Bq hx] at h0
    try dsimp only
    unfold Cb;rw [A9 (by omega),cond_true,hx,obs,g3,obs,obs,h0,show ((0:Int)==0)=true from rfl,cond_true,At (by omega),Nat.add_assoc]
  · show Cb m c (Ct m c r)=_;unfold Cb;by_cases h:Ct m c r=m.length
    · rw [A8 (by omega),cond_false,obs,cond_false]
    · have h0:=Z6 h hr;obtain ⟨x,hx⟩:=Jp (show Ct m c r<m.length by omega);obtain ⟨g1,g2,g3⟩:=Dm (hm _ (List.mem_of_getElem? hx)) hc;rw [Bq hx] at h0;rw [A9 (by omega),cond_true,hx,obs,g3,obs,obs,beq_eq_false_iff_ne.2 h0,cond_false]
theorem Qp {x:List Int} {u c:Nat} (h:c<u):(x.take u).getD c 0=x.getD c 0:=by
  rw [gDg,List.getElem?_take,if_pos h,gDg]
theorem Aqh {u c r:Nat} (h:c<u):Ct (m.map (·.take u)) c r=Ct m c r:=by
  unfold Ct;rw [← List.map_drop,List.findIdx_map];congr 2;funext x;exact congrArg (· !=0) (Qp h)
theorem Acy {f:List Int->List Int} (hf:f []=[]) {i:Nat}:(m.map f).getD i []=f (m.getD i []):=by
  rw [gDg,List.getElem?_map,gDg];cases m[i]? with
  | none=>exact hf.symm
  | some x=>rfl
theorem Aol {f:List Int->List Int} (hf:f []=[]) {r k:Nat}:(Ij m r k).map f=Ij (m.map f) r k:=by
  unfold Ij;rw [List.map_set,List.map_set,Acy hf,Acy hf]
theorem App {k:Int} {x:List Int} {u:Nat}:(C9 p k x).take u=C9 p k (x.take u):=by simp [C9,List.map_take]
theorem Apc {k:Int} {x:List Int} {u:Nat}:(C9 p k x).drop u=C9 p k (x.drop u):=by simp [C9,List.map_drop]
theorem Apb {k:Int} {x v:List Int} {u:Nat}:(Ch p k x v).take u=Ch p k (x.take u) (v.take u):=by simp [Ch,List.take_zipWith]
theorem Ao4 {k:Int} {x v:List Int} {u:Nat}:(Ch p k x v).drop u=Ch p k (x.drop u) (v.drop u):=by simp [Ch,List.drop_zipWith]
theorem Aq0 {c r u:Nat} {pr:List Int} (h:c<u):(Fu p c r pr m).map (·.take u)=Fu p c r (pr.take u) (m.map (·.take u)):=by
  apply List.ext_getElem
  · simp [Fu]
  · intro i h1 h2;rw [List.getElem_map,L7,L7,List.getElem_map,Qp h];split
    · rfl
    · exact Apb
theorem Arl {c r u:Nat} {pr:List Int} (h:c<u):(Fu p c r pr m).map (·.drop u)=Vr p c r (pr.drop u) (m.map (·.take u)) (m.map (·.drop u)):=by
  apply List.ext_getElem
  · simp [Fu,Vr]
  · intro i h1 h2;rw [List.getElem_map,L7,Qf,List.getElem_map,Acy (f:=(·.take u)) List.take_nil,Qp h,show m.getD i []=m[i]'(by simpa [Fu] using h1) from Bq (gEg (by simpa [Fu] using h1))];split
    · rfl
    · exact Ao4
theorem Ap7 {c r:Nat} {pa y z:List Int} {M A:List (List Int)}:Vr p c r pa (M.set r z) (A.set r y)=Vr p c r pa M A:=by
  apply List.ext_getElem
  · simp [Vr]
  · intro i h1 h2;rw [Qf,Qf];by_cases h:i=r
    · rw [if_pos h,if_pos h]
    · rw [if_neg h,if_neg h];simp only [List.getElem_set,if_neg (fun e=>h (Eq.symm e)),gDg,List.getElem?_set_ne (Ne.symm h)]
def rdW (u:Nat) (W:List (List Int)):List (List Int):=W.map (·.take u)
def alW (u:Nat) (W:List (List Int)):List (List Int):=W.map (·.drop u)
theorem Ard {n u:Nat} (hp:isF p=true) (hm:MatW p w m) (hn:n<=u) (hu:u<=w) (hw:w<=100000) (hl:m.length<=100000) :
    A4 (fun s_:Nat×Nat×List (List Int)×List (List Int)=>Bx (n:Int) p s_.1 s_.2.1 s_.2.2.1 s_.2.2.2) 4611686018427387904 (0,0,rdW u m,alW u m)=some ((gjT p m n).1,rdW u (gjT p m n).2,alW u (gjT p m n).2):=by
  have hb:=Iu hp;refine Hq n (fun c s=>s=((gjT p m c).1,c,rdW u (gjT p m c).2,alW u (gjT p m c).2)) (by omega) _ rfl (fun c s hc hI=>?_) (fun s hI=>?_)
  · subst hI;obtain ⟨hm',hr,hl'⟩:=Mh hb.1 hm c;have hlr:(rdW u (gjT p m c).2).length=(gjT p m c).2.length:=List.length_map ..;have hla:(alW u (gjT p m c).2).length=(gjT p m c).2.length:=List.length_map ..;by_cases hlt:(gjT p m c).1<(gjT p m c).2.length
    · refine .inl ?_;refine ⟨_,?_,rfl⟩;show Bx _ _ _ _ _ _=some (Ctl.next ((gjS p c (gjT p m c)).1,c+1,rdW u (gjS p c (gjT p m c)).2,alW u (gjS p c (gjT p m c)).2));generalize gjT p m c=s at *;obtain ⟨r,M⟩:=s
      try dsimp only at *
      have hR:MatW p u (rdW u M):=hm'.tk hu;have hA:MatW p (w - u) (alW u M):=hm'.dr;have hpv:Ct (rdW u M) c r=Ct M c r:=Aqh (by omega);unfold Bx gjS;rw [A9 (by omega),cond_true,obs,A9 (by omega),cond_true,Aug hR (by omega) (by omega) (by omega),obs,if_pos hlt,hlr,hpv];by_cases hk:Ct M c r=M.length
      · rw [hk,beq_self_eq_true,cond_true,obs,if_pos rfl];exact At (by omega) _
      · have hle:=P8 (c:=c) hr;have hkl:Ct M c r<M.length:=by omega
        rw [show (((Ct M c r:Nat):Int)==((M.length:Nat):Int))=false from by rw [beq_eq_false_iff_ne]; omega,cond_false,if_neg hk];have hnz:=Z6 hk hr;obtain ⟨y,hy⟩:=Jp hkl;have hyM:=hm' _ (List.mem_of_getElem? hy);obtain ⟨g1,g2,_⟩:=Dm hyM (show c<w by omega);rw [Bq hy] at hnz;have hs:=Arz hlt hkl;rw [Bq hy] at hs;have hpm:=Zh hm' hlt hkl;have hsl:=N1 M r (Ct M c r);have e1:Ij (rdW u M) r (Ct M c r)=rdW u (Ij M r (Ct M c r)):=(Aol List.take_nil).symm;have e2:Ij (alW u M) r (Ct M c r)=alW u (Ij M r (Ct M c r)):=(Aol List.drop_nil).symm;rw [At1 (by omega) (by omega) (by omega),obs,e1,e2,Bq hy];generalize Ij M r (Ct M c r)=W at *;have hs1:(rdW u W)[r]? =some (y.take u):=by simp [rdW,hs]
        have hs2:(alW u W)[r]? =some (y.drop u):=by simp [alW,hs]
        have g4:(y.take u)[c]? =some (y.getD c 0):=by rw [(Dm (hyM.tk hu) (show c<u by omega)).2.2,Qp (by omega)]
        have q1:VecW p u (C9 p (Kn p (y.getD c 0)) (y.take u)):=Pp hb.1 (hyM.tk hu).1;have q2:VecW p (w - u) (C9 p (Kn p (y.getD c 0)) (y.drop u)):=Pp hb.1 hyM.dr.1;have l1:(rdW u W).length=W.length:=List.length_map ..;have l2:(alW u W).length=W.length:=List.length_map ..
        try dsimp only
        rw [hs1,obs,g4,obs,Asq hp (hyM.tk hu) hyM.dr (by omega) (by omega) hs1 hs2 (by omega),obs]
        try dsimp only
        rw [Asd hb (w:=u) (w':=w - u) (pr:=C9 p (Kn p (y.getD c 0)) (y.take u)) (pa:=C9 p (Kn p (y.getD c 0)) (y.drop u)) (fun z hz=>?_) (fun z hz=>?_) (by simp only [List.length_set]; omega) (by omega) (by omega) (by simp only [List.length_set]; omega) (Qm hs1) (Qm hs2) (by omega) rfl,obs]
        · have e3:rdW u (Fu p c r (prV p c y) W)=Fu p c r (C9 p (Kn p (y.getD c 0)) (y.take u)) (rdW u W):=by
            unfold rdW prV;rw [Aq0 (by omega),App]
          have e4:alW u (Fu p c r (prV p c y) W)=Vr p c r (C9 p (Kn p (y.getD c 0)) (y.drop u)) (rdW u W) (alW u W):=by
            unfold rdW alW prV;rw [Arl (by omega),Apc]
          try dsimp only
          rw [At (by omega),obs,Aon,Ap7,e3,e4];exact At (by omega) _
        · rcases List.mem_or_eq_of_mem_set hz with hz | rfl
          · exact hpm.tk hu _ hz
          · exact q1
        · rcases List.mem_or_eq_of_mem_set hz with hz | rfl
          · exact hpm.dr _ hz
          · exact q2
    · refine .inr ?_;rw [Aas hlt n (by omega)];generalize gjT p m c=s at *
      try dsimp only
      unfold Bx;rw [A9 (by omega),cond_true,obs,hlr,A8 (by omega),cond_false]
  · subst hI
    try dsimp only
    unfold Bx;rw [A8 (by omega),cond_false,obs,cond_false]
theorem Ajn {n u:Nat} (hp:isF p=true) (hm:MatW p w m) (hn:n<=u) (hu:u<=w) (hw:w<=100000) (hl:m.length<=100000):En p (rdW u m) (n:Int) (alW u m)=some (rdW u (gjT p m n).2,alW u (gjT p m n).2,(gjT p m n).1):=by
  unfold En;rw [Ard hp hm hn hu hw hl,obs]
theorem Arp (hm:MatW p w m) (hw:w<=100000) (hl:m.length<=100000):Hh m=some m:=by
  unfold Hh;have h:=Agq (body:=fun s_:Nat×List (List Int)=>Dc m s_.1 s_.2) m id [] (F:=4611686018427387904) (by omega) m (fun i x h=>?_) ?_
  · rw [At (by omega),show List.replicate 0 ([]:List Int)=[] from rfl,show A4 (fun s_:Nat×List (List Int)=>Dc m s_.1 s_.2) 4611686018427387904 (0,[])=some m by simpa using h]; rfl
  · have:=Av h;have hx:=(hm x (List.mem_of_getElem? h)).1
    try dsimp only
    unfold Dc;rw [A9 (by omega),cond_true,h,obs,An1 _ (by omega),obs,At (by simp; omega),At (by omega)]; rfl
  · try dsimp only
    unfold Dc;rw [A8 (by omega),cond_false,List.map_id,List.nil_append]
end
end Go.Proofs.YtodopnonpadpfaaGreatDoor

namespace Go.Proofs.YtodopnonpadpfaaGreatDoor

def Ab0 (p n:Int) (b:List (List Int)):Bool:=b.all fun x=>((x.length:Nat):Int)==n&&x.all fun a=>inR a 0 (p - 1)
theorem Hu {a lo hi:Int}:inR a lo hi=true↔lo<=a∧a<=hi:=by simp [inR]
theorem W7 {p:Int} {n:Nat} {b:List (List Int)} (h:Ab0 p n b=true):MatW p n b:=by
  intro x hx;have h1:=List.all_eq_true.1 h x hx;simp only [Bool.and_eq_true,beq_iff_eq,List.all_eq_true,Hu] at h1;exact ⟨by omega,fun a ha=>by have:=h1.2 a ha; omega⟩
theorem Asa (p n:Int) (b:List (List Int)) (hp:2<=p∧p<=97) (hb:b.length<=1048576) (hr:Gf 1048576 b):Hn p n b=some (Ab0 p n b):=by
  unfold Hn;rw [Em b (fun x=>((x.length:Nat):Int)==n&&x.all fun a=>inR a 0 (p - 1)) (.next ()) (.out false) (by omega) (fun i x h=>?_) ?_,I9]; rfl
  · unfold G2;rw [A8 (by omega),cond_false]
  · have:=Av h;have hx:=hr x (List.mem_of_getElem? h);unfold G2;rw [A9 (by omega),cond_true,h,obs];cases hc:((x.length:Nat):Int)==n
    · rw [show (((x.length:Nat):Int) !=n)=true by simp only [bne,hc,Bool.not_false],cond_true,obs,cond_true,Bool.false_and]; rfl
    · rw [show (((x.length:Nat):Int) !=n)=false by simp only [bne,hc,Bool.not_true],cond_false,Au3 p x hp (by omega),obs,obs,Bool.true_and,At (by omega)];cases x.all fun a=>inR a 0 (p - 1) <;> rfl
theorem Aie (p n:Int) (b:List (List Int)) (hb:b.length<=1048576) (hr:Gf 1048576 b):D2 p b n=some (Ab0 p n b):=by
  unfold D2;rw [Em b (fun x=>((x.length:Nat):Int)==n&&x.all fun a=>inR a 0 (p - 1)) (.next ()) (.out false) (by omega) (fun i x h=>?_) ?_,I9]; rfl
  · unfold D9;rw [A8 (by omega),cond_false]
  · have:=Av h;have hx:=hr x (List.mem_of_getElem? h);unfold D9;rw [A9 (by omega),cond_true,h,obs,And p x n (by omega),obs,At (by omega)];cases ((x.length:Nat):Int)==n&&x.all fun a=>inR a 0 (p - 1) <;> rfl
theorem Akm (x y:List Int) (hx:x.length<=1048576):Fr x y=some (x==y):=by
  unfold Fr;by_cases h:x.length=y.length
  · rw [show (((x.length:Nat):Int) !=((y.length:Nat):Int))=false by rw [h]; exact bne_self_eq_false _,cond_false]
    have key:A4 (fun s_:Nat=>Eg x y s_) 4611686018427387904 0=some (if x==y then .next () else .out false):=by
      refine Hq x.length (fun i s=>s=i∧x.take i=y.take i) (by omega) _ ⟨rfl,by simp⟩ ?_ ?_
      · rintro i s hi ⟨hsi,ht⟩;subst hsi;unfold Eg;rw [A9 (by omega),cond_true,gEg hi,obs,gEg (show s<y.length by omega),obs];by_cases he:x[s]=y[s]'(by omega)
        · refine .inl ⟨s+1,?_,rfl,?_⟩
          · rw [show (x[s] !=y[s]'(by omega))=false by rw [he]; exact bne_self_eq_false _,cond_false,At (by omega)]
          · rw [List.take_add_one,List.take_add_one,ht,gEg hi,gEg (show s<y.length by omega),he]
        · refine .inr ?_;rw [bne_iff_ne.2 he,cond_true,show (x==y)=false from by rw [beq_eq_false_iff_ne]; intro e; subst e; exact he rfl]; rfl
      · rintro s ⟨hs,ht⟩;subst hs;rw [List.take_length,h,List.take_length] at ht;subst ht;unfold Eg;rw [A8 (by omega),cond_false,beq_self_eq_true]; rfl
    rw [key];cases x==y <;> rfl
  · rw [show (((x.length:Nat):Int) !=((y.length:Nat):Int))=true by rw [bne_iff_ne]; omega,cond_true,show (x==y)=false from by rw [beq_eq_false_iff_ne]; intro e; subst e; exact h rfl]
theorem Ar1 (x y:List (List Int)) (hx:x.length<=1048576) (hr:Gf 1048576 x):Hj x y=some (x==y):=by
  unfold Hj;by_cases h:x.length=y.length
  · rw [show (((x.length:Nat):Int) !=((y.length:Nat):Int))=false by rw [h]; exact bne_self_eq_false _,cond_false]
    have key:A4 (fun s_:Nat=>El x y s_) 4611686018427387904 0=some (if x==y then .next () else .out false):=by
      refine Hq x.length (fun i s=>s=i∧x.take i=y.take i) (by omega) _ ⟨rfl,by simp⟩ ?_ ?_
      · rintro i s hi ⟨hsi,ht⟩;subst hsi;unfold El;rw [A9 (by omega),cond_true,gEg hi,obs,gEg (show s<y.length by omega),obs,Akm _ _ (hr _ (List.getElem_mem hi)),obs];by_cases he:x[s]=y[s]'(by omega)
        · refine .inl ⟨s+1,?_,rfl,?_⟩
          · rw [show (x[s]==y[s]'(by omega))=true by rw [he]; exact beq_self_eq_true _,Bool.not_true,cond_false,At (by omega)]
          · rw [List.take_add_one,List.take_add_one,ht,gEg hi,gEg (show s<y.length by omega),he]
        · refine .inr ?_;rw [beq_eq_false_iff_ne.2 he,Bool.not_false,cond_true,show (x==y)=false from by rw [beq_eq_false_iff_ne]; intro e; subst e; exact he rfl]; rfl
      · rintro s ⟨hs,ht⟩;subst hs;rw [List.take_length,h,List.take_length] at ht;subst ht;unfold El;rw [A8 (by omega),cond_false,beq_self_eq_true]; rfl
    rw [key];cases x==y <;> rfl
  · rw [show (((x.length:Nat):Int) !=((y.length:Nat):Int))=true by rw [bne_iff_ne]; omega,cond_true,show (x==y)=false from by rw [beq_eq_false_iff_ne]; intro e; subst e; exact h rfl]
theorem Aoy {p:Int} {w:Nat} {m:List (List Int)} (hp:isF p=true) (hm:MatW p w m) (hw:w<=100000) (hl:m.length<=100000):Ej p m (w:Int)=some (gj p w m):=by
  have hb:=Iu hp;obtain ⟨k1,h2,h3⟩:=Mh hb.1 hm w
  have e1:∀ {m:List (List Int)},MatW p w m->rdW w m=m:=fun {m} hm=>by
    unfold rdW;exact (List.map_congr_left (g:=id) (fun x hx=>List.take_of_length_le (Nat.le_of_eq (hm x hx).1))).trans (List.map_id _)
  have e2:alW w m=List.replicate m.length []:=by
    unfold alW;rw [List.eq_replicate_iff];refine ⟨List.length_map ..,fun b hb=>?_⟩;obtain ⟨x,hx,rfl⟩:=List.mem_map.1 hb;exact List.drop_of_length_le (Nat.le_of_eq (hm x hx).1)
  have e3:(alW w (gjT p m w).2).length=m.length:=by rw [← h3]; exact List.length_map ..
  have hR:=Ajn hp hm (Nat.le_refl w) (Nat.le_refl w) hw hl;rw [e1 hm,e2] at hR;unfold Ej;rw [Arp hm hw hl,obs,At (by omega),hR,obs];rw [e1 k1];rw [At h3,At e3];exact At (by dsimp only; omega) _
theorem Aut (x:List Int):Ks x=some (x.take 48++(List.replicate 48 0).drop (x.take 48).length):=rfl
theorem Any (x:List Int):(x.take 48++(List.replicate 48 (0:Int)).drop (x.take 48).length).length=48:=by simp; omega
theorem Atd {x y:List Int} {n:Nat} (hx:x.length=n) (hy:y.length=n) (hn:n<=48) (h:x.take 48++(List.replicate 48 (0:Int)).drop (x.take 48).length=y.take 48++(List.replicate 48 (0:Int)).drop (y.take 48).length):x=y:=by
  rw [List.take_of_length_le (by omega),List.take_of_length_le (show y.length<=48 by omega)] at h;exact (List.append_inj h (by omega)).1
theorem Ajz {p:Int} {n:Nat} (b:List (List Int)) (hp:isF p=true) (hn:n<=48) (hb:b.length<=1048576) (hr:Gf 1048576 b) :
    Ez p b (n:Int)=some (decide (((b.length:Nat):Int)<=n)&&(Ab0 p n b&&gj p n b==b)):=by
  unfold Ez;by_cases h1:(n:Int)<b.length
  · rw [A9 h1,cond_true,obs,cond_true,A8 (by omega),Bool.false_and]
  rw [A8 h1,cond_false,A9 (show ((b.length:Nat):Int)<=n by omega),Bool.true_and,Aie p n b hb hr,obs,obs];cases hv:Ab0 p n b
  · rw [Bool.not_false,cond_true,Bool.false_and]
  have hm:=W7 hv;have hp2:=Iu hp;have hl:=(Mh hp2.1 hm n).2;have hgl:=Amj (n:=n) hp2.1 hm;have hgm:=Ar9 (n:=n) hp2.1 hm;rw [Bool.not_true,cond_false,Aoy hp hm (by omega) (by omega),obs,obs,Bool.true_and]
  have key:A4 (fun s_:Nat=>C4 (gj p n b) b s_) 4611686018427387904 0=some (if gj p n b==b.take (gj p n b).length then .next () else .out false):=by
    generalize gj p n b=x at *;refine Hq x.length (fun i s=>s=i∧x.take i=b.take i) (by omega) _ ⟨rfl,by simp⟩ ?_ ?_
    · rintro i s hi ⟨hsi,ht⟩;subst hsi;have hs:s<b.length:=by omega
      unfold C4;rw [A9 (by omega),cond_true,gEg hi,obs,Aut,obs,gEg hs,obs,Aut,obs,At ⟨Any _,Any _⟩];by_cases he:x[s]=b[s]
      · refine .inl ⟨s+1,?_,rfl,?_⟩
        · rw [he,beq_self_eq_true,Bool.not_true,cond_false,At (by omega)]
        · rw [List.take_add_one,List.take_add_one,ht,gEg hi,gEg hs,he]
      · refine .inr ?_;rw [beq_eq_false_iff_ne.2 (fun e=>he (Atd (hgm _ (List.getElem_mem hi)).1 (hm _ (List.getElem_mem hs)).1 hn e)),Bool.not_false,cond_true,show (x==b.take x.length)=false from ?_]
        · rfl
        · rw [beq_eq_false_iff_ne];intro e;refine he ?_;have e2:=congrArg (fun l=>l[s]?) e;simp only [List.getElem?_take,if_pos hi,gEg hi,gEg hs,Option.some.injEq] at e2;exact e2
    · rintro s ⟨hs,ht⟩;subst hs;rw [List.take_length] at ht;unfold C4;rw [A8 (by omega),cond_false,← ht,beq_self_eq_true]; rfl
  rw [key];by_cases he:gj p n b=b.take (gj p n b).length
  · rw [show (gj p n b==b.take (gj p n b).length)=true from beq_iff_eq.2 he];show some _=_;congr 1;by_cases hll:(gj p n b).length=b.length
    · rw [hll,List.take_length] at he;rw [he,beq_self_eq_true,beq_self_eq_true]
    · rw [show (gj p n b==b)=false from by rw [beq_eq_false_iff_ne]; exact fun e=>hll (congrArg List.length e),beq_eq_false_iff_ne]; omega
  · rw [beq_eq_false_iff_ne.2 he,show (gj p n b==b)=false from ?_]
    · rfl
    · rw [beq_eq_false_iff_ne];intro e;exact he (by rw [e,List.take_length])
def U7 (p l r:Int) (b:List (List Int)):Bool:=isF p&&(inR l 0 24&&(inR r 0 (24 - l)&&(decide (((b.length:Nat):Int)<=l+r)&&(Ab0 p (l+r) b&&gj p (l+r).toNat b==b))))
theorem Alf (p l r:Int) (b:List (List Int)) (hb:b.length<=1048576) (hr:Gf 1048576 b):Hd p l r b=some (U7 p l r b):=by
  unfold Hd U7;rw [Mm,obs];cases h1:inR l 0 24
  · rw [Bool.false_and,Bool.and_false]; rfl
  have h1':=Hu.1 h1;rw [cond_true,Bw (n:=24 - l) (by omega) (by omega),Mm,obs];cases h2:inR r 0 (24 - l)
  · rw [Bool.false_and,Bool.and_false,Bool.and_false]; rfl
  have h2':=Hu.1 h2;rw [cond_true,Bw (by omega) (by omega)];unfold Iz;rw [Akz,obs];cases hp:isF p
  · rfl
  rw [cond_true,Mm,obs,Hu.2 (show 0<=l+r∧l+r<=24 by omega),cond_true];by_cases h3:((b.length:Nat):Int)<=l+r
  · obtain ⟨n,hn⟩:=Int.eq_ofNat_of_zero_le (show 0<=l+r by omega);rw [A9 h3,cond_true,hn,Asa p n b (Iu hp) hb hr,obs];cases hv:Ab0 p (n:Int) b
    · rfl
    have hm:=W7 hv;have hgl:=Amj (n:=n) (Iu hp).1 hm;have hgm:=Ar9 (n:=n) (Iu hp).1 hm;have hl:=(Mh (Iu hp).1 hm n).2;rw [cond_true,Amc hp hm (Nat.le_refl n) (by omega) (by omega),obs,Ar1 _ _ (by omega) (fun x hx=>by rw [(hgm x hx).1]; omega),obs];rfl
  · rw [A8 h3]; rfl
theorem Ah7 (p l r:Int) (b:List (List Int)) (hb:b.length<=1048576) (hr:Gf 1048576 b):D5 p l r b=some (U7 p l r b):=by
  unfold D5 U7;rw [show F9 p=some (isF p) from rfl,obs];cases hp:isF p
  · rfl
  rw [cond_true,Bool.true_and]
  have hf:Je l r=some (inR l 0 24&&inR r 0 (24 - l)):=by
    unfold Je;rw [Kr,obs];cases h1:inR l 0 24
    · rfl
    have h1':=Hu.1 h1;rw [cond_true,Kr,obs,Bool.true_and];by_cases h2:0<=r∧r<=24
    · rw [Hu.2 h2,cond_true,obs,Bw (by omega) (by omega)];congr 1;rw [Bool.eq_iff_iff,Hu];simp only [decide_eq_true_eq];omega
    · rw [show inR r 0 24=false from by rw [Bool.eq_false_iff]; exact fun h=>h2 (Hu.1 h),cond_false,obs];congr 1;symm;rw [Bool.eq_false_iff];intro h;have:=Hu.1 h;exact h2 (by omega)
  rw [hf,obs];cases h1:inR l 0 24
  · rfl
  have h1':=Hu.1 h1;cases h2:inR r 0 (24 - l)
  · rfl
  have h2':=Hu.1 h2;obtain ⟨n,hn⟩:=Int.eq_ofNat_of_zero_le (show 0<=l+r by omega);rw [Bool.true_and,cond_true,Bw (by omega) (by omega),hn,Ajz b hp (by omega) hb hr];rfl
structure Auz (p l r:Int) (b:List (List Int)):Prop where
  fp:isF p=true
  hl:0<=l
  hr:0<=r
  hs:l+r<=24
  lb:((b.length:Nat):Int)<=l+r
  mb:MatW p (l+r).toNat b
  rb:gj p (l+r).toNat b=b
theorem Agm {p l r:Int} {b:List (List Int)} (h:U7 p l r b=true):Auz p l r b:=by
  unfold U7 at h;simp only [Bool.and_eq_true,Hu,decide_eq_true_eq,beq_iff_eq] at h;obtain ⟨h1,h2,h3,h4,h5,h6⟩:=h;refine ⟨h1,h2.1,h3.1,by omega,h4,?_,h6⟩;obtain ⟨n,hn⟩:=Int.eq_ofNat_of_zero_le (show 0<=l+r by omega);rw [hn] at h5 ⊢;exact W7 h5
theorem Ahm (l r:Int) (b:List (List Int)) {v:Int} (hv:0<=v∧v<=1048576) (hn:b.length<=9223372036854775807) (hb:Gf 9223372036854775807 b):Dv l r b v=some (szW v b):=by
  unfold Dv;rw [Ao6 b hv hn hb,obs];by_cases h:szW v b<0
  · rw [A9 h,cond_true];congr 1;unfold szW at h ⊢;split at h <;> rename_i h'
    · rw [if_pos h']
    · omega
  · rw [A8 h,cond_false]
theorem Aik (l r:Int) (b:List (List Int)) (hn:b.length<=1048576) (hb:Gf 1048576 b):Dz l r b=some b:=by
  unfold Dz;rw [Apt b hn hb,obs]
theorem Ai6 (l r:Int) (b:List (List Int)) (hn:b.length<=1048576) (hb:Gf 1048576 b):Dt l r b l r b=some true:=by
  unfold Dt;rw [bne_self_eq_false,cond_false,bne_self_eq_false,cond_false,Apk b hn hb,obs,Bool.not_true,cond_false]
end Go.Proofs.YtodopnonpadpfaaGreatDoor

namespace Go.Proofs.YtodopnonpadpfaaGreatDoor
def X5 (p:Int) (xs:List Nd):Bool:=xs.all fun n=> !((n.1==7||n.1==13)&&decide (p<=n.2.1))
def Aoz (xs:List Nd):Bool:=xs.all fun n=> !(n.1==8||n.1==14)
theorem Arv (xs:List Nd) (p:Int) (hx:xs.length<=1073741824):Dj xs p=some (isF p&&((tyV xs).isSome&&X5 p xs)):=by
  unfold Dj Ec;obtain ⟨r,hr,hm⟩:=An3 xs;rw [show F9 p=some (isF p) from rfl,obs,hr];cases hp:isF p
  · rfl
  have e:r.2.2=(tyV xs).isSome:=by
    cases ht:tyV xs with
    | none=>rw [ht] at hm; exact hm
    | some w=>rw [ht] at hm; dsimp only at hm; rw [hm]; rfl
  rw [Bool.not_true,cond_false,obs,obs,obs,e,Bool.true_and];cases (tyV xs).isSome
  · rfl
  rw [Bool.not_true,cond_false,Bool.true_and]
  have key:A4 (fun s_:Nat=>Ci xs p s_) 4611686018427387904 0=some (if X5 p xs then Ctl.next () else Ctl.out false):=by
    refine Em xs (fun n=> !((n.1==7||n.1==13)&&decide (p<=n.2.1))) (Ctl.next ()) (Ctl.out false) (by omega) (fun i n h=>?_) ?_
    · have:=Av h;unfold Ci Dq;rw [A9 (by omega),cond_true,h,obs,At (by omega)];cases n.1==7 <;> cases n.1==13 <;> cases decide (p<=n.2.1) <;> rfl
    · unfold Ci;rw [A8 (by omega),cond_false]
  rw [key,I9]
theorem Aml (xs:List Nd) (p:Int) (hx:xs.length<=1073741824):Cv xs p=some ((isF p&&((tyV xs).isSome&&X5 p xs))&&Aoz xs):=by
  unfold Cv;rw [Arv xs p hx,obs];cases isF p&&((tyV xs).isSome&&X5 p xs)
  · rfl
  rw [Bool.not_true,cond_false,Bool.true_and]
  have key:A4 (fun s_:Nat=>B9 xs s_) 4611686018427387904 0=some (if Aoz xs then Ctl.next () else Ctl.out false):=by
    refine Em xs (fun n=> !(n.1==8||n.1==14)) (Ctl.next ()) (Ctl.out false) (by omega) (fun i n h=>?_) ?_
    · have:=Av h;unfold B9 Id;rw [A9 (by omega),cond_true,h,obs,At (by omega)];cases n.1==8 <;> cases n.1==14 <;> rfl
    · unfold B9;rw [A8 (by omega),cond_false]
  rw [key,I9]
theorem Ajl (xs:List Nd) (p:Int) (hx:xs.length<=1073741824):Ht p xs=some ((tyV xs).isSome&&(isF p&&X5 p xs)):=by
  unfold Ht;obtain ⟨F,I,O,b,h,hm⟩:=Aky xs
  have e:b=(tyV xs).isSome:=by
    cases ht:tyV xs with
    | none=>rw [ht] at hm; exact hm
    | some w=>rw [ht] at hm; exact hm.1
  rw [h,obs,Akz,e];cases (tyV xs).isSome
  · rfl
  rw [Bool.not_true,cond_false,obs,obs];cases hp:isF p
  · rfl
  rw [Bool.not_true,cond_false,Bool.true_and,Bool.true_and]
  have key:A4 (fun s_:Nat=>Ef xs p s_) 4611686018427387904 0=some (if X5 p xs then Ctl.next () else Ctl.out false):=by
    refine Em xs (fun n=> !((n.1==7||n.1==13)&&decide (p<=n.2.1))) (Ctl.next ()) (Ctl.out false) (by omega) (fun i n h=>?_) ?_
    · have:=Av h;unfold Ef;rw [A9 (by omega),cond_true,h,obs,At (by omega)];cases n.1==7 <;> cases n.1==13 <;> cases decide (p<=n.2.1) <;> rfl
    · unfold Ef;rw [A8 (by omega),cond_false]
  rw [key,I9]
theorem Ac6 (xs:List Nd) (hx:xs.length<=1073741824):Ds xs=some (Aoz xs):=by
  unfold Ds
  have key:A4 (fun s_:Nat=>Cw xs s_) 4611686018427387904 0=some (if Aoz xs then Ctl.next () else Ctl.out false):=by
    refine Em xs (fun n=> !(n.1==8||n.1==14)) (Ctl.next ()) (Ctl.out false) (by omega) (fun i n h=>?_) ?_
    · have:=Av h;unfold Cw Fz;rw [A9 (by omega),cond_true,h,obs,At (by omega)];rw [show (n.1 !=8)= !(n.1==8) from rfl,show (n.1 !=14)= !(n.1==14) from rfl];cases n.1==8 <;> cases n.1==14 <;> rfl
    · unfold Cw;rw [A8 (by omega),cond_false]
  rw [key,I9]
/-- Both sides say the same of a component. -/
theorem Aur (p:Int) (s:ByteArray) (xs:List Nd) (l r:Int) (b:List (List Int)) (hx:xs.length<=1073741824) (hb:b.length<=1048576) (hr:Gf 1048576 b):∃ v,Db p s xs l r b=some v∧Cp p s xs l r b=some v:=by
  unfold Db Cp;obtain ⟨nm,n1,n2⟩:=Aqc s;obtain ⟨q,hq,hm⟩:=An3 xs;rw [Ake,obs,n1,n2,obs,Aml xs p hx,Ajl xs p hx,Ac6 xs hx,Alf p l r b hb hr,Ah7 p l r b hb hr,hq];cases ht:tyV xs with
  | none =>
    refine ⟨false,rfl,?_⟩;cases nm
    · rfl
    rw [Option.isSome_none,Bool.false_and,Bool.and_false,Bool.false_and]; rfl
  | some w =>
    rw [ht] at hm;dsimp only at hm;subst hm;rw [Option.isSome_some,Bool.true_and];dsimp only;cases nm
    · exact ⟨false,rfl,rfl⟩
    generalize isF p=a1;generalize X5 p xs=a2;generalize Aoz xs=a3;generalize U7 p l r b=a4
    have e:([w.1,w.2]==[l,r])=cond (l==w.1) (r==w.2) false:=by
      have c1:(w.1==l)=(l==w.1):=Bool.beq_comm;have c2:(w.2==r)=(r==w.2):=Bool.beq_comm;show (w.1==l&&(w.2==r&&(([]:List Int)==[])))=_;rw [c1,c2];cases l==w.1 <;> cases r==w.2 <;> rfl
    simp only [obs,e];cases a1 <;> cases a2 <;> cases a3 <;> cases a4 <;> cases l==w.1 <;> cases r==w.2 <;> exact ⟨_,rfl,rfl⟩
-- copies and comparisons
theorem Apz (xs:List Nd) (hx:xs.length<=1073741824):Gq xs=some xs:=by
  unfold Gq;rw [At (by omega)]
  have h:A4 (fun s_:Nat×List Nd=>D7 xs s_.1 s_.2) 4611686018427387904 (0,List.replicate xs.length ((0,0,(⟨#[]⟩:ByteArray)):Nd))=some xs:=by
    refine B0 xs.length (fun i=>(i,xs.take i++List.replicate (xs.length - i) ((0,0,(⟨#[]⟩:ByteArray)):Nd))) (by omega) xs (by simp) (fun i hi=>?_) ?_
    · have hx:=gEg hi
      try dsimp only
      unfold D7 Iy;rw [A9 (by omega),cond_true,hx,obs,obs,W3 hi,obs,At (by omega),W1 hx]
    · try dsimp only
      unfold D7;rw [A8 (by omega),cond_false];simp
  rw [h]; rfl
theorem Aos (xs:List Nd) (hx:xs.length<=1073741824):F7 xs xs=some true:=by
  unfold F7;rw [bne_self_eq_false,cond_false]
  have h:A4 (fun s_:Nat=>Du xs xs s_) 4611686018427387904 0=some (Ctl.next ()):=by
    refine B0 xs.length (fun i=>i) (by omega) _ rfl (fun i hi=>?_) ?_
    · have hx:=gEg hi
      try dsimp only
      unfold Du I6;rw [A9 (by omega),cond_true,hx,obs,obs,bne_self_eq_false,cond_false,bne_self_eq_false,cond_false,beq_self_eq_true,Bool.not_true,cond_false,obs,Bool.not_true,cond_false,At (by omega)]
    · try dsimp only
      unfold Du;rw [A8 (by omega),cond_false]
  rw [h]; rfl
theorem Aox (xs:List Nd) {v:Int} (hv:0<=v∧v<=1048576) (hx:xs.length<=9223372036854775807) (hs:∀ n∈xs,n.2.2.size<=9223372036854775807):∃ y,F4 xs v=some y∧(y<0∨(0<=y∧y<=v∧((xs.length:Nat):Int)<=v)):=by
  unfold F4;rw [Bw (n:=v - ((xs.length:Nat):Int)) (by omega) (by omega)];by_cases h:v - ((xs.length:Nat):Int)<0
  · rw [A9 h]; exact ⟨_,rfl,.inl (by omega)⟩
  rw [A8 h,cond_false]
  have key:∃ c,A4 (fun s_:Int×Nat=>D3 xs s_.1 s_.2) 4611686018427387904 (v - ((xs.length:Nat):Int),0)=some c∧((∃ y,c=Ctl.next y∧0<=y∧y<=v)∨∃ y,c=Ctl.out y∧y<0):=by
    refine Km (Post:=fun c=>(∃ y,c=Ctl.next y∧0<=y∧y<=v)∨∃ y,c=Ctl.out y∧y<0) xs.length (fun k s=>s.2=k∧0<=s.1∧s.1<=v) (by omega) ⟨rfl,by dsimp only; omega,by dsimp only; omega⟩ ?_ ?_
    · rintro k ⟨y,k'⟩ hk ⟨h1,h2,h3⟩;dsimp only at h1 h2 h3;subst h1;have hn:=gEg hk;have hz:=hs _ (List.getElem_mem hk)
      try dsimp only
      unfold D3 I8;rw [A9 (by omega),cond_true,hn,obs,Bw (n:=y - ((xs[k'].2.2.size:Nat):Int)) (by omega) (by omega)];by_cases h4:y - ((xs[k'].2.2.size:Nat):Int)<0
      · rw [A9 h4];exact .inr ⟨_,rfl,.inr ⟨_,rfl,by omega⟩⟩
      · rw [A8 h4,cond_false,obs,A8 h4,cond_false,At (by omega)];exact .inl ⟨_,rfl,rfl,by dsimp only; omega,by dsimp only; omega⟩
    · rintro ⟨y,k'⟩ ⟨h1,h2,h3⟩;dsimp only at h1 h2 h3;subst h1
      try dsimp only
      unfold D3;rw [A8 (by omega),cond_false];exact ⟨_,rfl,.inl ⟨_,rfl,h2,h3⟩⟩
  obtain ⟨c,hc,⟨y,rfl,h1,h2⟩ | ⟨y,rfl,h1⟩⟩:=key
  · rw [hc]; exact ⟨_,rfl,.inr ⟨h1,h2,by omega⟩⟩
  · rw [hc]; exact ⟨_,rfl,.inl h1⟩
theorem R7 (s:ByteArray) (xs:List Nd) (l r:Int) (b:List (List Int)) {v:Int} (hv:0<=v∧v<=1048576) (h0:s.size<=9223372036854775807) (hx:xs.length<=9223372036854775807) (hs:∀ n∈xs,n.2.2.size<=9223372036854775807) (hb:b.length<=9223372036854775807) (hr:Gf 9223372036854775807 b) :
    ∃ y,Cj s xs l r b v=some y∧(y<0∨(0<=y∧y<=v∧xs.length<=1048576∧b.length<=1048576∧Gf 1048576 b)):=by
  unfold Cj I0;rw [Bw (n:=v - ((s.size:Nat):Int)) (by omega) (by omega)];by_cases h:v - ((s.size:Nat):Int)<0
  · rw [A9 h]; exact ⟨_,rfl,.inl (by omega)⟩
  rw [A8 h,cond_false];obtain ⟨y,hy,h1 | ⟨h1,h2,h3⟩⟩:=Aox xs (v:=v - ((s.size:Nat):Int)) (by omega) hx hs
  · rw [hy,obs,A9 h1]; exact ⟨_,rfl,.inl (by omega)⟩
  · rw [hy,obs,A8 (by omega),cond_false,obs,A8 (by omega),cond_false,Ahm l r b (by omega) hb hr,obs];by_cases h4:szW y b<0
    · rw [A9 h4]; exact ⟨_,rfl,.inl (by omega)⟩
    · obtain ⟨g1,g2,g3⟩:=Awd (by omega) h4;rw [A8 h4];exact ⟨_,rfl,.inr ⟨by omega,by omega,by omega,by omega,g2⟩⟩
theorem Re (s:ByteArray) (xs:List Nd) (l r:Int) (b:List (List Int)) (hx:xs.length<=1048576) (hb:b.length<=1048576) (hr:Gf 1048576 b):Bm s xs l r b=some (s,xs,l,r,b):=by
  unfold Bm I4;rw [Apz xs (by omega),Aik l r b hb hr]; rfl
theorem Rx (s:ByteArray) (xs:List Nd) (l r:Int) (b:List (List Int)) (hx:xs.length<=1048576) (hb:b.length<=1048576) (hr:Gf 1048576 b):Ck s xs l r b s xs l r b=some true:=by
  unfold Ck I1;rw [Aos xs (by omega),Ai6 l r b hb hr,beq_self_eq_true]; rfl
end Go.Proofs.YtodopnonpadpfaaGreatDoor

namespace Go.Proofs.YtodopnonpadpfaaGreatDoor

def Cg (p a b:Int):Prop:=∃ q,a=b+p*q
section
variable {p a b c d:Int}
theorem Cg.rf:Cg p a a:=⟨0,by simp⟩
theorem Cg.of (h:a=b):Cg p a b:=h▸Cg.rf
theorem Cg.symm (h:Cg p a b):Cg p b a:=by obtain ⟨q,rfl⟩:=h; exact ⟨-q,by grind⟩
theorem Cg.trans (h1:Cg p a b) (h2:Cg p b c):Cg p a c:=by obtain ⟨q,rfl⟩:=h1; obtain ⟨r,rfl⟩:=h2; exact ⟨q+r,by grind⟩
theorem Cg.add (h1:Cg p a b) (h2:Cg p c d):Cg p (a+c) (b+d):=by obtain ⟨q,rfl⟩:=h1; obtain ⟨r,rfl⟩:=h2; exact ⟨q+r,by grind⟩
theorem Cg.sub (h1:Cg p a b) (h2:Cg p c d):Cg p (a - c) (b - d):=by obtain ⟨q,rfl⟩:=h1; obtain ⟨r,rfl⟩:=h2; exact ⟨q - r,by grind⟩
theorem Cg.mul (h1:Cg p a b) (h2:Cg p c d):Cg p (a*c) (b*d):=by obtain ⟨q,rfl⟩:=h1; obtain ⟨r,rfl⟩:=h2; exact ⟨q*d+b*r+p*q*r,by grind⟩
theorem Cg.md:Cg p (a % p) a:=⟨-(a / p),by have:=Int.emod_add_mul_ediv a p; grind⟩
theorem Cg.to (h:Cg p a b):a % p=b % p:=by obtain ⟨q,rfl⟩:=h; rw [Int.add_mul_emod_self_left]
theorem Cg.fr (h:a % p=b % p):Cg p a b:=(Cg.md.symm.trans (Cg.of h)).trans Cg.md
theorem Cg.eq (h:Cg p a b) (h1:0<=a∧a<p) (h2:0<=b∧b<p):a=b:=by
  have:=h.to
  rwa [Int.emod_eq_of_lt h1.1 h1.2,Int.emod_eq_of_lt h2.1 h2.2] at this
end
def sm:Nat->(Nat->Int)->Int
  | 0,_=>0
  | k+1,f=>sm k f+f k
section
variable {p:Int} {f g:Nat->Int}
theorem Aup:∀ {k:Nat},(∀ i,i<k->Cg p (f i) (g i))->Cg p (sm k f) (sm k g)
  | 0,_=>Cg.rf
  | k+1,h=>(Aup fun i hi=>h i (by omega)).add (h k (by omega))
theorem Aom:∀ {k:Nat},(∀ i,i<k->f i=0)->sm k f=0
  | 0,_=>rfl
  | k+1,h=>by unfold sm; rw [Aom fun i hi=>h i (by omega),h k (by omega)]; rfl
end
def en (m:List (List Int)) (i j:Nat):Int:=(m.getD i []).getD j 0
inductive Ik (p:Int) (n:Nat) (m:List (List Int)):(Nat->Int)->Prop
  | zero {f:Nat->Int}:(∀ j,j<n->Cg p (f j) 0)->Ik p n m f
  | add {f g:Nat->Int} (i:Nat) (k:Int):i<m.length->Ik p n m g->(∀ j,j<n->Cg p (f j) (g j+k*en m i j))->Ik p n m f
section
variable {p:Int} {n:Nat} {m m':List (List Int)} {f g:Nat->Int}
theorem Gl {i:Nat} (h:i<m.length):Ik p n m (en m i):=.add i 1 h (.zero (f:=fun _=>0) fun _ _=>Cg.rf) fun _ _=>Cg.of (by omega)
theorem Fy (h:Ik p n m f) (hf:∀ j,j<n->Cg p (g j) (f j)):Ik p n m g:=by
  cases h with
  | zero h=>exact .zero fun j hj=>(hf j hj).trans (h j hj)
  | add i k hi h hs=>exact .add i k hi h fun j hj=>(hf j hj).trans (hs j hj)
theorem Aau (h:Ik p n m f) (hg:Ik p n m g):Ik p n m (fun j=>f j+g j):=by
  induction hg with
  | zero h0=>exact Fy h fun j hj=>(Cg.rf.add (h0 j hj)).trans (Cg.of (by omega))
  | add i k hi _ hs ih=>exact .add i k hi ih fun j hj=>(Cg.rf.add (hs j hj)).trans (Cg.of (by omega))
theorem Pe (a:Int) (h:Ik p n m f):Ik p n m (fun j=>a*f j):=by
  induction h with
  | zero h0=>exact .zero fun j hj=>(Cg.rf.mul (h0 j hj)).trans (Cg.of (by omega))
  | add i k hi _ hs ih=>exact .add i (a*k) hi ih fun j hj=>(Cg.rf.mul (hs j hj)).trans (Cg.of (by grind))
theorem Qj (h:∀ i,i<m.length->Ik p n m' (en m i)) (hf:Ik p n m f):Ik p n m' f:=by
  induction hf with
  | zero h0=>exact .zero h0
  | add i k hi _ hs ih=>exact Fy (Aau ih (Pe k (h i hi))) hs
/-- Reduced in the first c columns, with r rows used. -/
structure Pw (c r:Nat) (m:List (List Int)) (pv:Nat->Nat):Prop where
  rl:r<=m.length
  lt:∀ i,i<r->pv i<c
  mono:∀ i k,i<k->k<r->pv i<pv k
  low:∀ i,i<r->∀ j,j<pv i->en m i j=0
  one:∀ i,i<r->en m i (pv i)=1
  zero:∀ i,i<r->∀ k,k≠i->en m k (pv i)=0
  tail:∀ i,r<=i->∀ j,j<c->en m i j=0
theorem Sm {i j:Nat} (h:m.length<=i):en m i j=0:=by
  unfold en;rw [gDg (l:=m),List.getElem?_eq_none h]; rfl
theorem Auk {i j:Nat} (hp:2<=p) (hm:MatW p n m):0<=en m i j∧en m i j<p:=by
  unfold en;by_cases h:i<m.length
  · have hx:=hm _ (Hf h);generalize m.getD i []=x at hx;by_cases hj:j<x.length
    · rw [Bq (gEg hj)]; exact hx.2 _ (List.getElem_mem hj)
    · rw [gDg,List.getElem?_eq_none (by omega)]; exact ⟨by simp,by simp; omega⟩
  · rw [gDg (l:=m),List.getElem?_eq_none (by omega)]; simp; omega
theorem Au6 {r k i j:Nat} (hr:r<m.length) (hk:k<m.length):en (Ij m r k) i j=if i=k then en m r j else if i=r then en m k j else en m i j:=by
  unfold en Ij;by_cases h1:i=k
  · subst h1;rw [if_pos rfl,gDg (l:=List.set _ _ _),List.getElem?_set_self (by rw [List.length_set]; exact hk)]; rfl
  · rw [if_neg h1,gDg (l:=List.set _ _ _),List.getElem?_set_ne (Ne.symm h1)];by_cases h2:i=r
    · subst h2;rw [if_pos rfl,List.getElem?_set_self hr]; rfl
    · rw [if_neg h2,List.getElem?_set_ne (Ne.symm h2),← gDg]
theorem Ap0 {k:Int} {x:List Int} {j:Nat}:(C9 p k x).getD j 0=x.getD j 0*k % p:=by
  unfold C9;rw [gDg,List.getElem?_map,gDg];cases x[j]? with
  | none=>simp
  | some a=>rfl
theorem Agp {k:Int} {x v:List Int} {j:Nat} (h:x.length=v.length):(Ch p k x v).getD j 0=(x.getD j 0 - k*v.getD j 0) % p:=by
  unfold Ch;rw [gDg,List.getElem?_zipWith,gDg,gDg];by_cases hj:j<x.length
  · rw [gEg hj,gEg (show j<v.length by omega)]; rfl
  · rw [List.getElem?_eq_none (show x.length<=j by omega),List.getElem?_eq_none (show v.length<=j by omega)]; simp
theorem Avg {c r i j:Nat} {pr:List Int} (hm:MatW p n m) (hpr:pr.length=n) (hi:i<m.length):en (Fu p c r pr m) i j=if i=r then pr.getD j 0 else (en m i j - en m i c*pr.getD j 0) % p:=by
  have hx:=hm _ (List.getElem_mem hi);unfold en Fu;rw [gDg (l:=List.mapIdx _ _),List.getElem?_mapIdx,gEg hi,Bq (gEg hi)];show (if i=r then pr else Ch p (m[i].getD c 0) m[i] pr).getD j 0=_;split
  · rfl
  · rw [Agp (by rw [hx.1,hpr])]
def Aoe (p:Int):Prop:=∀ a,1<=a->a<p->a*Kn p a % p=1
theorem At8 {c:Nat} {s:Nat×List (List Int)} {pv:Nat->Nat} (hp:2<=p) (hI:Aoe p) (hm:MatW p n s.2) (h:Pw c s.1 s.2 pv) :
    (∃ pv',Pw (c+1) (gjS p c s).1 (gjS p c s).2 pv')∧(∀ f,Ik p n (gjS p c s).2 f↔Ik p n s.2 f):=by
  obtain ⟨r,m⟩:=s;dsimp only at hm h;unfold gjS;dsimp only;by_cases h1:r<m.length
  · rw [if_pos h1];by_cases h2:Ct m c r=m.length
    · rw [if_pos h2];refine ⟨⟨pv,h.rl,fun i hi=>Nat.lt_succ_of_lt (h.lt i hi),h.mono,h.low,h.one,h.zero,fun i hi j hj=>?_⟩,fun f=>Iff.rfl⟩;dsimp only at hi ⊢;by_cases hjc:j<c
      · exact h.tail i hi j hjc
      · obtain rfl:j=c:=by omega
        by_cases hil:i<m.length
        · exact Abl hi (by omega) h.rl
        · exact Sm (by omega)
    · rw [if_neg h2];have hk1:=P8 (c:=c) h.rl;have hk2:=Av3 m c r;have hnz:=Z6 h2 h.rl;have hkl:Ct m c r<m.length:=by omega
      have hx:=hm _ (Hf hkl);have ha:en m (Ct m c r) c≠0:=hnz;generalize hk:Ct m c r=k at *;have hab:=Auk (i:=k) (j:=c) hp hm;have hinv:=hI (en m k c) (by omega) hab.2;generalize hv:Kn p (en m k c)=v at hinv
      have hpr:∀ j,(prV p c (m.getD k [])).getD j 0=en m k j*v % p:=fun j=>by
        unfold prV;rw [Ap0];show _*Kn p (en m k c) % p=_;rw [hv]; rfl
      have hprl:(prV p c (m.getD k [])).length=n:=(Pp hp hx.1).1;generalize prV p c (m.getD k [])=pr at *;have hW:=Zh hm h1 hkl;have hWl:=N1 m r k;have hWe:∀ i j,en (Ij m r k) i j=if i=k then en m r j else if i=r then en m k j else en m i j:=fun i j=>Au6 h1 hkl
      generalize Ij m r k=W at *
      have hE:∀ i j,i<m.length->en (Fu p c r pr W) i j=if i=r then en m k j*v % p else (en W i j - en W i c*(en m k j*v % p)) % p:=fun i j hi=>by
        rw [Avg hW hprl (by omega),hpr]
      have hEl:=Lw p c r pr W
      have h0:∀ i j,i<m.length->i≠r->en m k j=0->en (Fu p c r pr W) i j=en W i j:=fun i j hi hne h0=>by
        have hb:=Auk (i:=i) (j:=j) hp hW;rw [hE i j hi,if_neg hne,h0,Int.zero_mul,Int.zero_emod,Int.mul_zero,Int.sub_zero,Int.emod_eq_of_lt hb.1 hb.2]
      have hkj:∀ j,j<c->en m k j=0:=fun j hj=>h.tail k (by omega) j hj
      have hkp:∀ i,i<r->en m k (pv i)=0:=fun i hi=>h.zero i hi k (by omega)
      have hcc:en m k c*v % p=1:=hinv
      have hsp:∀ i j,i<m.length->i≠r->Cg p (en (Fu p c r pr W) i j) (en W i j+ -en W i c*en (Fu p c r pr W) r j):=fun i j hi hne=>by
        rw [hE i j hi,if_neg hne,hE r j h1,if_pos rfl];exact Cg.md.trans (Cg.of (by grind))
      have hWr:∀ j,Cg p (en W r j) (en m k c*en (Fu p c r pr W) r j):=fun j=>by
        have e:en W r j=en m k j:=by
          rw [hWe];by_cases e:r=k
          · rw [if_pos e,e]
          · rw [if_neg e,if_pos rfl]
        rw [e,hE r j h1,if_pos rfl];obtain ⟨q,hq⟩:=Cg.fr (p:=p) (a:=en m k c*v) (b:=1) (by rw [hcc]; exact (Int.emod_eq_of_lt (by omega) (by omega)).symm);refine Cg.trans ⟨-q*en m k j,?_⟩ (Cg.rf.mul Cg.md.symm)
        grind
      refine ⟨⟨fun i=>if i=r then c else pv i,?_,?_,?_,?_,?_,?_,?_⟩,fun f=>⟨Qj fun i hi=>?_,Qj fun i hi=>?_⟩⟩
      · show r+1<=(Fu p c r pr W).length;omega
      · intro i hi
        try dsimp only
        split
        · omega
        · have:=h.lt i (by omega); omega
      · intro i l hil hl
        try dsimp only
        rw [if_neg (by omega:i≠r)];split
        · exact h.lt i (by omega)
        · exact h.mono i l hil (by omega)
      · intro i hi j hj;dsimp only at hj ⊢;by_cases e:i=r
        · subst e;rw [if_pos rfl] at hj;rw [hE i j h1,if_pos rfl,hkj j hj,Int.zero_mul,Int.zero_emod]
        · rw [if_neg e] at hj;have:=h.lt i (by omega);rw [h0 i j (by omega) e (hkj j (by omega)),hWe,if_neg (by omega),if_neg e];exact h.low i (by omega) j hj
      · intro i hi;dsimp only;by_cases e:i=r
        · subst e;rw [if_pos rfl,hE i c h1,if_pos rfl,hcc]
        · rw [if_neg e,h0 i (pv i) (by omega) e (hkp i (by omega)),hWe,if_neg (by omega),if_neg e];exact h.one i (by omega)
      · intro i hi l hl;dsimp only;by_cases hll:l<m.length
        · by_cases e:i=r
          · subst e;rw [if_pos rfl,hE l c hll,if_neg hl,hcc,Int.mul_one,Int.sub_self,Int.zero_emod]
          · rw [if_neg e];by_cases e2:l=r
            · subst e2;rw [hE l (pv i) hll,if_pos rfl,hkp i (by omega),Int.zero_mul,Int.zero_emod]
            · rw [h0 l (pv i) hll e2 (hkp i (by omega)),hWe];by_cases e3:l=k
              · rw [if_pos e3]; exact h.zero i (by omega) r (by omega)
              · rw [if_neg e3,if_neg e2]; exact h.zero i (by omega) l hl
        · exact Sm (by omega)
      · intro i hi j hj;dsimp only at hi ⊢;by_cases hil:i<m.length
        · by_cases e:j=c
          · subst e;rw [hE i j hil,if_neg (by omega),hcc,Int.mul_one,Int.sub_self,Int.zero_emod]
          · rw [h0 i j hil (by omega) (hkj j (by omega)),hWe];by_cases e3:i=k
            · rw [if_pos e3]; exact h.tail r (Nat.le_refl r) j (by omega)
            · rw [if_neg e3,if_neg (by omega)]; exact h.tail i (by omega) j (by omega)
        · exact Sm (by omega)
      · have hi:i<m.length:=by dsimp only at hi; omega
        have hrow:∀ t,t<m.length->Ik p n m (en W t):=fun t ht=>by
          by_cases e1:t=k
          · exact Fy (Gl h1) fun j hj=>Cg.of (by rw [hWe,if_pos e1])
          · by_cases e2:t=r
            · exact Fy (Gl hkl) fun j hj=>Cg.of (by rw [hWe,if_neg e1,if_pos e2])
            · exact Fy (Gl ht) fun j hj=>Cg.of (by rw [hWe,if_neg e1,if_neg e2])
        have hr':Ik p n m (en (Fu p c r pr W) r):=Fy (Pe v (Gl hkl)) fun j hj=>by
          rw [hE r j h1,if_pos rfl];exact Cg.md.trans (Cg.of (by grind))
        by_cases e:i=r
        · subst e; exact hr'
        · exact Fy (Aau (hrow i hi) (Pe (-en W i c) hr')) fun j hj=>hsp i j hi e
      · have hE':∀ t,t<m.length->Ik p n (Fu p c r pr W) (en W t):=fun t ht=>by
          by_cases e:t=r
          · subst e;exact Fy (Pe (en m k c) (Gl (i:=t) (by omega))) fun j hj=>hWr j
          · refine Fy (Aau (Gl (i:=t) (by omega)) (Pe (en W t c) (Gl (i:=r) (by omega)))) fun j hj=>?_
            exact Cg.symm (((hsp t j ht e).add Cg.rf).trans (Cg.of (by grind)))
        by_cases e1:i=r
        · subst e1;exact Fy (hE' k hkl) fun j hj=>Cg.of (by rw [hWe,if_pos rfl])
        · by_cases e2:i=k
          · subst e2;exact Fy (hE' r h1) fun j hj=>Cg.of (by rw [hWe,if_neg (by omega),if_pos rfl])
          · exact Fy (hE' i hi) fun j hj=>Cg.of (by rw [hWe,if_neg e2,if_neg e1])
  · rw [if_neg h1];have:=h.rl;refine ⟨⟨pv,h.rl,fun i hi=>Nat.lt_succ_of_lt (h.lt i hi),h.mono,h.low,h.one,h.zero,fun i hi j hj=>Sm (m:=m) (by dsimp only at hi; omega)⟩,fun f=>Iff.rfl⟩
theorem Aoc {m:List (List Int)} (hp:2<=p) (hI:Aoe p) (hm:MatW p n m):∀ c,(∃ pv,Pw c (gjT p m c).1 (gjT p m c).2 pv)∧∀ f,Ik p n (gjT p m c).2 f↔Ik p n m f
  | 0=>⟨⟨fun _=>0,Nat.zero_le _,by intro i hi; simp [gjT] at hi,by intro i k _ hk; simp [gjT] at hk,by intro i hi; simp [gjT] at hi,by intro i hi; simp [gjT] at hi,by intro i hi; simp [gjT] at hi,fun _ _ j hj=>by omega⟩,fun _=>Iff.rfl⟩
  | c+1=>by
    obtain ⟨⟨pv,h1⟩,h2⟩:=Aoc hp hI hm c;obtain ⟨h3,h4⟩:=At8 hp hI (Mh hp hm c).1 h1;exact ⟨h3,fun f=>(h4 f).trans (h2 f)⟩
theorem Ut {r i j:Nat} (h:i<r):en (m.take r) i j=en m i j:=by
  unfold en;rw [gDg (l:=m.take r),List.getElem?_take,if_pos h,← gDg]
theorem Aj0 {k:Nat} (hk:k<=n) (h:Ik p n m f):Ik p k m f:=by
  induction h with
  | zero h0=>exact .zero fun j hj=>h0 j (by omega)
  | add i k hi _ hs ih=>exact .add i k hi ih fun j hj=>hs j (by omega)
theorem Aqr {c:Nat} (hp:2<=p) (hI:Aoe p) (hm:MatW p n m) (hc:c<=n):(∃ pv,Pw c (gj p c m).length (gj p c m) pv)∧∀ f,Ik p c (gj p c m) f↔Ik p c m f:=by
  obtain ⟨⟨pv,h⟩,h2⟩:=Aoc hp hI hm c;have hl:=Amj (n:=c) hp hm;have hrl:=h.rl;refine ⟨⟨pv,Nat.le_refl _,?_,?_,?_,?_,?_,?_⟩,fun f=>Iff.trans (b:=Ik p c (gjT p m c).2 f) ⟨Qj fun i hi=>?_,Qj fun i hi=>?_⟩ ⟨Qj fun i hi=>Aj0 hc ((h2 _).1 (Gl hi)),Qj fun i hi=>Aj0 hc ((h2 _).2 (Gl hi))⟩⟩
  · rw [hl]; exact h.lt
  · rw [hl]; exact h.mono
  · rw [hl]; intro i hi j hj; unfold gj; rw [Ut hi]; exact h.low i hi j hj
  · rw [hl]; intro i hi; unfold gj; rw [Ut hi]; exact h.one i hi
  · rw [hl]; intro i hi k hk;by_cases hkl:k<(gjT p m c).1
    · unfold gj; rw [Ut hkl]; exact h.zero i hi k hk
    · exact Sm (by omega)
  · intro i hi j _; exact Sm hi
  · rw [hl] at hi;exact Fy (Gl (i:=i) (by omega)) fun j hj=>Cg.of (by unfold gj; rw [Ut hi])
  · by_cases hir:i<(gjT p m c).1
    · exact Fy (Gl (i:=i) (by omega)) fun j hj=>Cg.of (by unfold gj; rw [Ut hir])
    · exact .zero fun j hj=>Cg.of (h.tail i (by omega) j hj)
theorem Atu (hp:2<=p) (hI:Aoe p) (hm:MatW p n m):(∃ pv,Pw n (gj p n m).length (gj p n m) pv)∧∀ f,Ik p n (gj p n m) f↔Ik p n m f:=Aqr hp hI hm (Nat.le_refl n)
end
end Go.Proofs.YtodopnonpadpfaaGreatDoor

namespace Go.Proofs.YtodopnonpadpfaaGreatDoor

def Eh (x:List Int):Nat:=x.findIdx fun a=>a !=0
section
variable {p:Int} {n:Nat} {m m' B:List (List Int)} {o:List Int}
theorem Aqf {c r i:Nat} {pv:Nat->Nat} (h:Pw c r m pv) (hm:MatW p n m) (hc:c<=n) (hi:i<r):Eh (m.getD i [])=pv i:=by
  have hl:=h.rl;have hx:=(hm _ (Hf (show i<m.length by omega))).1;have hlt:=h.lt i hi;have e:∀ (j:Nat) (hj:j<(m.getD i []).length),(m.getD i [])[j]=en m i j:=fun j hj=>(Bq (gEg hj)).symm
  unfold Eh;refine (List.findIdx_eq (show pv i<(m.getD i []).length by omega)).2 ⟨?_,fun j hj=>?_⟩
  · rw [e,h.one i hi]; rfl
  · rw [e,h.low i hi j hj]; rfl
structure OrdV (n:Nat) (o:List Int):Prop where
  nd:o.Nodup
  mem:∀ q,q∈o↔0<=q∧q<(n:Int)
theorem OrdV.len (h:OrdV n o):o.length=n:=by
  have h1:((List.range n).map Int.ofNat).Nodup:=by
    rw [List.Nodup,List.pairwise_map];exact List.Pairwise.imp (fun hne e=>hne (Int.ofNat.inj e)) (List.nodup_range (n:=n))
  have h2:o.Perm ((List.range n).map Int.ofNat):=by
    rw [List.perm_ext_iff_of_nodup h.nd h1];intro a;rw [h.mem,List.mem_map];constructor
    · intro ha;exact ⟨a.toNat,List.mem_range.2 (by omega),by show ((a.toNat:Nat):Int)=a; omega⟩
    · rintro ⟨b,hb,rfl⟩;have:=List.mem_range.1 hb;show 0<=(b:Int)∧(b:Int)<n;omega
  have:=h2.length_eq
  simpa using this
def Atp (o:List Int) (j:Nat):Nat:=(o.getD j 0).toNat
def Aqk (o:List Int) (q:Nat):Nat:=o.idxOf (q:Int)
theorem OrdV.at (h:OrdV n o) {j:Nat} (hj:j<n):∃ hj':j<o.length,o[j]=((Atp o j:Nat):Int)∧Atp o j<n:=by
  have hl:=h.len;refine ⟨by omega,?_⟩;have h1:=(h.mem (o[j]'(by omega))).1 (List.getElem_mem _);have e:Atp o j=(o[j]'(by omega)).toNat:=congrArg Int.toNat (Bq (gEg (by omega)));omega
theorem OrdV.inv (h:OrdV n o) {q:Nat} (hq:q<n):Aqk o q<n∧Atp o (Aqk o q)=q:=by
  have hl:=h.len;have h1:Aqk o q<o.length:=List.idxOf_lt_length_of_mem ((h.mem _).2 (by omega));refine ⟨by omega,?_⟩;have h2:o[Aqk o q]=(q:Int):=List.getElem_idxOf h1;obtain ⟨_,h3,_⟩:=h.at (show Aqk o q<n by omega);omega
end
end Go.Proofs.YtodopnonpadpfaaGreatDoor

namespace Go.Proofs.YtodopnonpadpfaaGreatDoor

section
variable {p:Int} {n:Nat} {m m':List (List Int)} {f g:Nat->Int}
end
def lv (R:List (List Int)) (i:Nat):Nat:=Eh (R.getD i [])
section
variable {p:Int} {n:Nat} {R:List (List Int)}
theorem Aou {pv:Nat->Nat} (h:Pw n R.length R pv) {w:Nat} (hm:MatW p w R) (hw:n<=w):Pw n R.length R (lv R):=by
  have e:∀ i,i<R.length->lv R i=pv i:=fun i hi=>Aqf h hm hw hi
  refine ⟨Nat.le_refl _,fun i hi=>?_,fun i k hik hk=>?_,fun i hi j hj=>?_,fun i hi=>?_,fun i hi k hk=>?_,fun i hi j _=>Sm hi⟩
  · rw [e i hi]; exact h.lt i hi
  · rw [e i (by omega),e k hk]; exact h.mono i k hik hk
  · rw [e i hi] at hj; exact h.low i hi j hj
  · rw [e i hi]; exact h.one i hi
  · rw [e i hi]; exact h.zero i hi k hk
end
end Go.Proofs.YtodopnonpadpfaaGreatDoor

namespace Go.Proofs.YtodopnonpadpfaaGreatDoor

section
variable {p:Int} {n:Nat} {m E R F:List (List Int)} {f g u v:Nat->Int}
/-- One row after another is taken away, so often that the value at its lead becomes zero. -/
def Tt (p:Int) (R:List (List Int)) (x:List Int):Nat->List Int
  | 0=>x
  | i+1=>Ch p ((Tt p R x i).getD (lv R i) 0) (Tt p R x i) (R.getD i [])
theorem Qq {x:List Int} (hp:2<=p) (hR:MatW p n R) (hx:VecW p n x):∀ i,i<=R.length->VecW p n (Tt p R x i)
  | 0,_=>hx
  | i+1,hi=>Ako hp (Qq hp hR hx i (by omega)).1 (hR _ (Hf (by omega))).1
theorem Aqm {x:List Int} (hp:2<=p) (hR:MatW p n R) (hx:VecW p n x) (h:Pw n R.length R (lv R)):∀ i,i<=R.length->∀ j,j<n->Cg p ((Tt p R x i).getD j 0) (x.getD j 0 - sm i fun t=>x.getD (lv R t) 0*en R t j)
  | 0,_,j,_=>Cg.of (by show _=_ - 0; rw [Int.sub_zero]; rfl)
  | i+1,hi,j,hj=>by
    have ih:=Aqm hp hR hx h i (by omega)
    have hk:Cg p ((Tt p R x i).getD (lv R i) 0) (x.getD (lv R i) 0):=by
      refine (ih _ (h.lt i (by omega))).trans (Cg.of ?_);rw [Aom fun t ht=>by rw [h.zero i (by omega) t (by omega)]; omega];omega
    show Cg p ((Ch p _ _ _).getD j 0) _;rw [Agp (by rw [(Qq hp hR hx i (by omega)).1,(hR _ (Hf (show i<R.length by omega))).1])];refine Cg.md.trans (((ih j hj).sub (hk.mul Cg.rf)).trans (Cg.of ?_));show _=x.getD j 0 - (sm i _+x.getD (lv R i) 0*en R i j);unfold en;omega
-- the equations from behind
end
end Go.Proofs.YtodopnonpadpfaaGreatDoor

namespace Go.Proofs.YtodopnonpadpfaaGreatDoor
section
variable {p:Int} {n:Nat} {m:List (List Int)}
theorem Aqt (x:List Int) (hx:x.length<=1000):Hi x=some ((Eh x:Nat):Int):=by
  unfold Hi;have hle:Eh x<=x.length:=List.findIdx_le_length
  have h:A4 (fun s_:Nat=>Ev x s_) 4611686018427387904 0=some (Eh x):=by
    refine B0 (Eh x) (fun i=>i) (by omega) _ rfl (fun i hi=>?_) ?_
    · have h0:=List.not_of_lt_findIdx hi;have h1:x[i]'(by omega)=0:=by simpa using h0
      try dsimp only
      unfold Ev;rw [A9 (by omega),cond_true,gEg (show i<x.length by omega),obs,obs,h1,show ((0:Int)==0)=true from rfl,cond_true,At (by omega)]
    · unfold Ev;by_cases h:Eh x=x.length
      · rw [A8 (by omega),cond_false,obs,cond_false]
      · have h0:=List.findIdx_getElem (w:=show Eh x<x.length by omega);rw [A9 (by omega),cond_true,gEg (show Eh x<x.length by omega),obs,obs,show ((x[Eh x]'(by omega))==0)=false from Bool.eq_false_iff.2 (fun e=>bne_iff_ne.1 h0 (beq_iff_eq.1 e)),cond_false]
  rw [h,obs]
theorem Ars (x:List Int) (hx:x.length<=100000):H0 x=some ((Eh x:Nat):Int):=by
  unfold H0;have hle:Eh x<=x.length:=List.findIdx_le_length
  have h:A4 (fun s_:Nat=>F5 x s_) 4611686018427387904 0=some (if Eh x=x.length then .next () else .out ((Eh x:Nat):Int)):=by
    refine B0 (Eh x) (fun i=>i) (by omega) _ rfl (fun i hi=>?_) ?_
    · have h0:=List.not_of_lt_findIdx hi;have h1:x[i]'(by omega)=0:=by simpa using h0
      try dsimp only
      unfold F5;rw [A9 (by omega),cond_true,gEg (show i<x.length by omega),obs,h1,show ((0:Int) !=0)=false from rfl,cond_false,At (by omega)]
    · unfold F5;by_cases h:Eh x=x.length
      · rw [A8 (by omega),cond_false,if_pos h]
      · have h0:(x[Eh x]'(by omega) !=0)=true:=List.findIdx_getElem (w:=show Eh x<x.length by omega);rw [A9 (by omega),cond_true,gEg (show Eh x<x.length by omega),obs,h0,cond_true,if_neg h]
  rw [h];by_cases h2:Eh x=x.length
  · rw [if_pos h2]; show some _=some _; rw [h2]
  · rw [if_neg h2]; rfl
/-- A sum of rows, taken row by row. -/
def spV (p:Int) (n:Nat) (m:List (List Int)) (c:List Int):Nat->List Int
  | 0=>List.replicate n 0
  | i+1=>List.zipWith (fun a x=>(a+c.getD i 0*x) % p) (spV p n m c i) (m.getD i [])
theorem Sk {c:List Int} (hp:2<=p) (hm:MatW p n m):∀ i,i<=m.length->VecW p n (spV p n m c i)
  | 0,_=>⟨by simp [spV],fun a ha=>by obtain rfl:=(List.mem_replicate.1 ha).2; omega⟩
  | i+1,hi=>by
    have h1:=Sk (c:=c) hp hm i (by omega);have h2:=hm _ (Hf (show i<m.length by omega));refine ⟨by unfold spV; rw [List.length_zipWith,h1.1,h2.1]; omega,fun a ha=>?_⟩;obtain ⟨b,d,rfl⟩:=Ami ha;exact Ais hp
theorem Aus {c:List Int} (hp:2<=p) (hm:MatW p n m):∀ i,i<=m.length->∀ j,j<n->Cg p ((spV p n m c i).getD j 0) (sm i fun t=>c.getD t 0*en m t j)
  | 0,_,j,_=>Cg.of (by show (List.replicate n (0:Int)).getD j 0=0; rw [gDg,List.getElem?_replicate]; split <;> rfl)
  | i+1,hi,j,hj=>by
    have h1:=Sk (c:=c) hp hm i (by omega);have h2:=hm _ (Hf (show i<m.length by omega))
    have e:(spV p n m c (i+1)).getD j 0=((spV p n m c i).getD j 0+c.getD i 0*en m i j) % p:=by
      have k1:=(Dm h1 hj).2.2;have k2:=(Dm h2 hj).2.2;show (List.zipWith (fun a x=>(a+c.getD i 0*x) % p) (spV p n m c i) (m.getD i [])).getD j 0=_;unfold en;generalize spV p n m c i=X at *;rw [gDg,List.getElem?_zipWith,k1,k2]; rfl
    rw [e];exact Cg.md.trans ((Aus hp hm i (by omega) j hj).add Cg.rf)
theorem Att {c:List Int} (hp:2<=p∧p<=97) (hm:MatW p n m) (hc:VecW p m.length c) (hn:n<=1000) (hl:m.length<=1000):Ie p (n:Int) m c=some (spV p n m c m.length):=by
  unfold Ie;rw [At (by omega),Int.toNat_natCast]
  have key:A4 (fun s_:Nat×List Int=>Fi m c p s_.1 s_.2) 4611686018427387904 (0,List.replicate n 0)=some (spV p n m c m.length):=by
    refine B0 m.length (fun i=>(i,spV p n m c i)) (by omega) _ rfl (fun i hi=>?_) ?_
    · have h1:=Sk (c:=c) hp.1 hm i (by omega);have h2:=hm _ (List.getElem_mem hi);have hl1:=h1.1;have hl2:=h2.1;have hcc:=hc.1;have hci:=O5 hc (j:=i) (by omega)
      have hin:A4 (fun s_:Nat×List Int=>Fn m[i] c i p s_.1 s_.2) 4611686018427387904 (0,spV p n m c i)=some (spV p n m c (i+1)):=by
        have hv:=Sk (c:=c) hp.1 hm (i+1) (by omega);have hvl:=hv.1;refine Aod (y:=spV p n m c (i+1)) (by omega) (by omega) (fun j hj z hz=>?_) ?_
        · have a1:=O5 h1 hj;have a2:=O5 h2 (j:=j) (by omega);have a3:=Ahr hp hci a2
          try dsimp only
          unfold Fn;rw [A9 (by omega),cond_true,gEg (show j<m[i].length by omega),obs,hz,obs,gEg (show i<c.length by omega),obs,At (by omega),At (by omega),Bw (n:=c[i]'(by omega)*m[i][j]'(by omega)) (by omega) (by omega),Bw (by omega) (by omega),Int.tmod_eq_emod_of_nonneg (by omega)];congr 4;simp only [spV,List.getElem_zipWith,Bq (gEg (show i<c.length by omega)),Bq (m:=m) (gEg hi)]
        · try dsimp only
          unfold Fn;rw [A8 (by omega),cond_false]
      try dsimp only
      unfold Fi;rw [A9 (by omega),cond_true,gEg hi,obs,hin,obs,At (by omega)]
    · try dsimp only
      unfold Fi;rw [A8 (by omega),cond_false]
  rw [key,obs]
def cvV (m:List (List Int)) (x:List Int) (i:Nat):List Int:=(List.range i).map fun t=>x.getD (lv m t) 0
theorem Ap2 {x:List Int} {i:Nat}:(cvV m x i).length=i:=by simp [cvV]
theorem At9 {x:List Int} {i:Nat}:cvV m x (i+1)=cvV m x i++[x.getD (lv m i) 0]:=by simp [cvV,List.range_succ]
theorem Au2 {i:Nat} (hi:i<m.length):Eh m[i]=lv m i:=by unfold lv; rw [Bq (gEg hi)]
theorem Avr {x:List Int} (h:Pw n m.length m (lv m)) (hx:VecW p n x):VecW p m.length (cvV m x m.length):=by
  refine ⟨Ap2,fun a ha=>?_⟩;obtain ⟨t,ht,rfl⟩:=List.mem_map.1 ha;have:=Dm hx (h.lt t (List.mem_range.1 ht));exact ⟨this.1,this.2.1⟩
theorem As1 {x:List Int} {t:Nat} (ht:t<m.length):(cvV m x m.length).getD t 0=x.getD (lv m t) 0:=by
  unfold cvV;rw [gDg,List.getElem?_map,List.getElem?_range ht]; rfl
theorem Am5 {x:List Int} (hm:MatW p n m) (h:Pw n m.length m (lv m)) (hx:VecW p n x) (hn:n<=1000) (hl:m.length<=1000):Fh m x=some (cvV m x m.length):=by
  unfold Fh
  have key:A4 (fun s_:Nat×List Int=>Dg m x s_.1 s_.2) 4611686018427387904 (0,[])=some (cvV m x m.length):=by
    refine B0 m.length (fun i=>(i,cvV m x i)) (by omega) _ rfl (fun i hi=>?_) ?_
    · have h1:=hm _ (List.getElem_mem hi);have h2:=Dm hx (h.lt i hi);have h3:=Ap2 (m:=m) (x:=x) (i:=i)
      try dsimp only
      unfold Dg;rw [A9 (by omega),cond_true,gEg hi,obs,Aqt _ (by rw [h1.1]; exact hn),obs,Dk (by omega),Int.toNat_natCast,Au2 hi,h2.2.2,obs,At (by omega),At (by omega),At9]
    · try dsimp only
      unfold Dg;rw [A8 (by omega),cond_false]
  rw [key]; rfl
def Oy (p:Int) (n:Nat) (m:List (List Int)) (x:List Int):Bool:=spV p n m (cvV m x m.length) m.length==x
theorem Auc {x:List Int} (hp:2<=p∧p<=97) (hm:MatW p n m) (h:Pw n m.length m (lv m)) (hx:VecW p n x) (hn:n<=1000) (hl:m.length<=1000):Ia p m x=some (Oy p n m x):=by
  unfold Ia;have hv:=Avr h hx;have hs:=Sk (c:=cvV m x m.length) hp.1 hm m.length (Nat.le_refl _);rw [Am5 hm h hx hn hl,obs,hx.1,Att hp hm hv hn hl,obs,Akm _ _ (by rw [hs.1]; omega)]; rfl
theorem Aot {x:List Int} (hx:VecW p n x):(((Eh x:Nat):Int)==((x.length:Nat):Int))=true↔∀ j,j<n->Cg p (x.getD j 0) 0:=by
  rw [beq_iff_eq];constructor
  · intro e j hj;have e2:Eh x=x.length:=by omega
    have g:=Dm hx hj;have h0:=List.not_of_lt_findIdx (xs:=x) (p:=fun a=>a !=0) (i:=j) (by show j<Eh x; rw [e2,hx.1]; exact hj);have h1:x[j]'(by rw [hx.1]; exact hj)=0:=by simpa using h0
    rw [Bq (gEg (show j<x.length by rw [hx.1]; exact hj)),h1];exact Cg.rf
  · intro H
    have e2:Eh x=x.length:=by
      refine List.findIdx_eq_length.2 fun a ha=>?_
      obtain ⟨j,hj,rfl⟩:=List.mem_iff_getElem.1 ha;have hj':j<n:=by rw [← hx.1]; exact hj
      have g:=Dm hx hj';have:=(H j hj').eq ⟨g.1,g.2.1⟩ ⟨by omega,by omega⟩;rw [Bq (gEg hj)] at this;simp [this]
    omega
theorem Aoo {a s:Int}:Cg p (a - s) 0↔Cg p s a:=by
  constructor
  · intro h;exact (Cg.of (by omega)).trans (((Cg.rf (a:=a)).sub h).trans (Cg.of (by omega)))
  · intro h;exact ((Cg.rf (a:=a)).sub h).trans (Cg.of (by omega))
theorem Au8 {x y:List Int} (hx:VecW p n x) (hy:VecW p n y):(x==y)=true↔∀ j,j<n->Cg p (x.getD j 0) (y.getD j 0):=by
  rw [beq_iff_eq];constructor
  · rintro rfl j _; exact Cg.rf
  · intro H;refine List.ext_getElem (by rw [hx.1,hy.1]) fun j h1 h2=>?_
    have hj:j<n:=by rw [← hx.1]; exact h1
    have g:=Dm hx hj;have g':=Dm hy hj;have:=(H j hj).eq ⟨g.1,g.2.1⟩ ⟨g'.1,g'.2.1⟩
    rwa [Bq (gEg h1),Bq (gEg h2)] at this
theorem Aso {x:List Int} (hp:2<=p) (hm:MatW p n m) (h:Pw n m.length m (lv m)) (hx:VecW p n x) :
    (((Eh (Tt p m x m.length):Nat):Int)==(((Tt p m x m.length).length:Nat):Int))=Oy p n m x:=by
  rw [Bool.eq_iff_iff,Aot (Qq hp hm hx _ (Nat.le_refl _))];unfold Oy;rw [Au8 (Sk hp hm _ (Nat.le_refl _)) hx]
  have key:∀ j,j<n->(Cg p ((Tt p m x m.length).getD j 0) 0↔Cg p ((spV p n m (cvV m x m.length) m.length).getD j 0) (x.getD j 0)):=fun j hj=>by
    have h1:=Aqm hp hm hx h m.length (Nat.le_refl _) j hj;have h2:=(Aus (c:=cvV m x m.length) hp hm m.length (Nat.le_refl _) j hj).trans (Aup (g:=fun t=>x.getD (lv m t) 0*en m t j) fun t ht=>by rw [As1 ht]; exact Cg.rf);exact ⟨fun h0=>h2.trans ((Aoo).1 (h1.symm.trans h0)),fun h0=>h1.trans ((Aoo).2 (h2.symm.trans h0))⟩
  exact ⟨fun H j hj=>(key j hj).1 (H j hj),fun H j hj=>(key j hj).2 (H j hj)⟩
theorem Ape {l r:Int} {x:List Int} (hp:2<=p∧p<=97) (hm:MatW p n m) (h:Pw n m.length m (lv m)) (hx:VecW p n x) (hn:n<=1000) (hl:m.length<=1000):Gj p l r m x=some (Oy p n m x):=by
  unfold Gj E5;have hxl:=hx.1;rw [An1 x (by omega),obs]
  have key:A4 (fun s_:Nat×List Int×List Int=>Cf m p s_.1 s_.2.1 s_.2.2) 4611686018427387904 (0,x,[])=some (Tt p m x m.length,(List.range m.length).map fun t=>(Tt p m x t).getD (lv m t) 0):=by
    refine B0 m.length (fun i=>(i,Tt p m x i,(List.range i).map fun t=>(Tt p m x t).getD (lv m t) 0)) (by omega) _ rfl (fun i hi=>?_) ?_
    · have h1:=hm _ (List.getElem_mem hi);have hc:=Qq hp.1 hm hx i (by omega);have hc':=Qq hp.1 hm hx (i+1) (by omega);have h2:=Dm hc (h.lt i hi)
      have e:Ch p ((Tt p m x i).getD (lv m i) 0) (Tt p m x i) m[i]=Tt p m x (i+1):=by
        show _=Ch p _ _ (m.getD i []);rw [Bq (m:=m) (gEg hi)]
      try dsimp only
      unfold Cf;rw [A9 (by omega),cond_true,gEg hi,obs,Ars _ (by rw [h1.1]; omega),obs,Dk (by omega),Int.toNat_natCast,Au2 hi,h2.2.2,obs,At (by simp; omega),Ach hp hc h1 (by omega) ⟨h2.1,h2.2.1⟩,obs,e,At (by rw [hc.1,hc'.1]),At (by omega),List.range_succ,List.map_append]; rfl
    · try dsimp only
      unfold Cf;rw [A8 (by omega),cond_false]
  have hc:=Qq hp.1 hm hx m.length (Nat.le_refl _);rw [key,obs];dsimp only;unfold I7;rw [Ars _ (by rw [hc.1]; omega),obs,Aso hp.1 hm h hx]; rfl
theorem Ata {l r l' r':Int} {b:List (List Int)} (hp:2<=p∧p<=97) (hm:MatW p n m) (h:Pw n m.length m (lv m)) (hb:MatW p n b) (hn:n<=1000) (hl:m.length<=1000) (hl':b.length<=1000):D6 p l r m l' r' b=some (b.all (Oy p n m)):=by
  unfold D6
  have key:A4 (fun s_:Nat=>Cs b p m s_) 4611686018427387904 0=some (if b.all (Oy p n m) then Ctl.next () else .out false):=by
    refine Em b (Oy p n m) _ _ (by omega) (fun i x hx=>?_) ?_
    · have hi:=Av hx;unfold Cs;rw [A9 (by omega),cond_true,hx,obs,Auc hp hm h (hb x (List.mem_of_getElem? hx)) hn hl,obs,At (by omega)];cases Oy p n m x <;> rfl
    · unfold Cs;rw [A8 (by omega),cond_false]
  rw [key,I9]
theorem Ats {x:List Int} (hm:MatW p 0 m) (hp:2<=p) (hx:VecW p 0 x):Oy p 0 m x=true:=by
  unfold Oy;rw [beq_iff_eq,List.length_eq_zero_iff.1 (Sk (c:=cvV m x m.length) hp hm m.length (Nat.le_refl _)).1,List.length_eq_zero_iff.1 hx.1]
theorem Ao1 {l r l' r':Int} {b:List (List Int)} (hp:2<=p∧p<=97) (hm:MatW p n m) (h:Pw n m.length m (lv m)) (hb:MatW p n b) (hn:n<=1000) (hl:m.length<=1000) (hl':b.length<=1000) :
    ∃ z,Gi p l r m l' r' b=some z∧((z=.inl ()∧b.all (Oy p n m)=true)∨∃ x:List Int,z=.inr x∧x.length≠0∧b.all (Oy p n m)=false):=by
  unfold Gi
  have key:∃ c,A4 (fun s_:Nat=>Dr b p l r m s_) 4611686018427387904 0=some c∧((c=Ctl.next ()∧b.all (Oy p n m)=true)∨∃ x:List Int,c=Ctl.out (Sum.inr x)∧x.length≠0∧b.all (Oy p n m)=false):=by
    refine Km (Post:=fun c=>(c=Ctl.next ()∧b.all (Oy p n m)=true)∨∃ x:List Int,c=Ctl.out (Sum.inr x)∧x.length≠0∧b.all (Oy p n m)=false) b.length (fun i s=>s=i∧∀ k (hk:k<b.length),k<i->Oy p n m b[k]=true) (by omega) ⟨rfl,fun _ _ hk=>absurd hk (by omega)⟩ ?_ ?_
    · rintro i s hi ⟨rfl,hI⟩;have hx:=hb _ (List.getElem_mem hi);unfold Dr;rw [A9 (by omega),cond_true,gEg hi,obs,Ape hp hm h hx hn hl,obs,At (by omega)];cases hh:Oy p n m b[s]
      · refine .inr ⟨_,rfl,.inr ⟨_,rfl,fun h0=>?_,?_⟩⟩
        · have hn0:n=0:=by rw [← hx.1]; exact h0
          subst hn0;rw [Ats hm hp.1 hx] at hh;exact absurd hh (by decide)
        · rw [List.all_eq_false];exact ⟨_,List.getElem_mem hi,by rw [hh]; decide⟩
      · refine .inl ⟨_,rfl,rfl,fun k hk hks=>?_⟩;by_cases e:k=s
        · subst e; exact hh
        · exact hI k hk (by omega)
    · rintro s ⟨rfl,hI⟩;unfold Dr;rw [A8 (by omega),cond_false];refine ⟨_,rfl,.inl ⟨rfl,?_⟩⟩;rw [List.all_eq_true];intro x hx;obtain ⟨k,hk,rfl⟩:=List.mem_iff_getElem.1 hx;exact hI k hk hk
  obtain ⟨c,hc,h1⟩:=key;rw [hc];rcases h1 with ⟨rfl,h1⟩ | ⟨x,rfl,h1,h2⟩
  · exact ⟨_,rfl,.inl ⟨rfl,h1⟩⟩
  · exact ⟨_,rfl,.inr ⟨x,rfl,h1,h2⟩⟩
theorem Ajf {s:ByteArray} {xs:List Nd} {l r:Int} {b:List (List Int)} (hx:xs.length<=1073741824) (hb:b.length<=1048576) (hr:Gf 1048576 b) (h:Db p s xs l r b=some true):U7 p l r b=true:=by
  unfold Db at h;obtain ⟨nm,n1,n2⟩:=Aqc s;rw [Ake,obs,n2,obs,Ajl xs p hx,Ac6 xs hx,Alf p l r b hb hr] at h;cases ht:tyV xs with
  | none=>rw [ht] at h; exact absurd h (by simp)
  | some w =>
    rw [ht,Option.isSome_some,Bool.true_and] at h;dsimp only at h;generalize isF p=a1 at h;generalize X5 p xs=a2 at h;generalize Aoz xs=a3 at h;cases hg:U7 p l r b
    · rw [hg] at h;cases nm <;> cases a1 <;> cases a2 <;> cases a3 <;> exact absurd h (by simp)
    · rfl
theorem Apw {l r:Int} {b:List (List Int)} (G:Auz p l r b):Pw (l+r).toNat b.length b (lv b):=by
  have hp:=Iu G.fp;obtain ⟨⟨pv,h⟩,_⟩:=Atu hp.1 (fun _ h1 h2=>(Am0 G.fp ⟨h1,h2⟩).2.2.2.2) G.mb;rw [G.rb] at h;exact Aou h G.mb (Nat.le_refl _)
/-- Both sides say the same of two components. -/
theorem Awi (p:Int) (s s':ByteArray) (xs xs':List Nd) (l r l' r':Int) (b b':List (List Int)) (hx:xs.length<=1073741824) (hb:b.length<=1048576) (hr:Gf 1048576 b) (hx':xs'.length<=1073741824) (hb':b'.length<=1048576) (hr':Gf 1048576 b'):∃ v,D0 p s xs l r b s' xs' l' r' b'=some v∧Dw p s xs l r b s' xs' l' r' b'=some v:=by
  unfold D0 Dw;obtain ⟨v,g1,g2⟩:=Aur p s xs l r b hx hb hr;obtain ⟨v',g1',g2'⟩:=Aur p s' xs' l' r' b' hx' hb' hr';rw [g1,g2,g1',g2',obs,obs];cases v
  · exact ⟨_,rfl,rfl⟩
  cases v'
  · exact ⟨_,rfl,rfl⟩
  have G:=Agm (Ajf hx hb hr g1);have G':=Agm (Ajf hx' hb' hr' g1')
  suffices h:∃ v,H5 p s xs l r b s' xs' l' r' b'=some v∧D1 p s xs l r b s' xs' l' r' b'=some v by
    obtain ⟨v,h1,h2⟩:=h;rw [h1,h2];exact ⟨_,rfl,rfl⟩
  unfold H5 D1;cases s.toList==s'.toList
  · exact ⟨_,rfl,rfl⟩
  by_cases hl:l=l'
  · by_cases hr0:r=r'
    · subst hl hr0;have hp:=Iu G.fp;have q1:=G.hl;have q2:=G.hr;have q3:=G.hs;have q4:=G.lb;have q5:=G'.lb;have hI:=Apw G;rw [beq_self_eq_true,beq_self_eq_true,cond_true,cond_true,cond_true,cond_true,cond_true,cond_true,Ata hp G.mb hI G'.mb (by omega) (by omega) (by omega)];obtain ⟨z,hz,⟨rfl,h1⟩ | ⟨x,rfl,h1,h2⟩⟩:=Ao1 (l:=l) (r:=r) (l':=l) (r':=r) hp G.mb hI G'.mb (by omega) (by omega) (by omega)
      · rw [hz,h1]; exact ⟨_,rfl,rfl⟩
      · rw [hz,h2,obs];refine ⟨false,rfl,?_⟩;show Option.bind (og (x.length≠0) _) _=_;rw [At h1]; rfl
    · rw [show (r==r')=false from by rw [beq_eq_false_iff_ne]; exact hr0];cases l==l' <;> exact ⟨_,rfl,rfl⟩
  · rw [show (l==l')=false from by rw [beq_eq_false_iff_ne]; exact hl]; exact ⟨_,rfl,rfl⟩
end
theorem Aq6 {p:Int} {s s':ByteArray} {xs xs':List Nd} {l r l' r':Int} {b b':List (List Int)} (h0:s.size<=9223372036854775807) (hx:xs.length<=9223372036854775807) (hs:∀ n∈xs,n.2.2.size<=9223372036854775807) (hb:b.length<=9223372036854775807) (hr:Gf 9223372036854775807 b)
    (h0':s'.size<=9223372036854775807) (hx':xs'.length<=9223372036854775807) (hs':∀ n∈xs',n.2.2.size<=9223372036854775807) (hb':b'.length<=9223372036854775807) (hr':Gf 9223372036854775807 b'):B1 p s xs l r b s' xs' l' r' b'=some true:=by
  unfold B1;obtain ⟨y,hy,h1 | ⟨h1,h2,h3,h4,h5⟩⟩:=R7 s xs l r b (v:=1048576) (by omega) h0 hx hs hb hr
  · rw [hy,obs,A9 h1]; rfl
  rw [hy,obs,A8 (by omega),cond_false];obtain ⟨y',hy',k1 | ⟨k1,k2,k3,k4,k5⟩⟩:=R7 s' xs' l' r' b' (v:=y) (by omega) h0' hx' hs' hb' hr'
  · rw [hy',obs,A9 k1]; rfl
  rw [hy',obs,A8 (by omega),cond_false];obtain ⟨v,g1,g2⟩:=Awi p s s' xs xs' l r l' r' b b' (by omega) h4 h5 (by omega) k4 k5;simp only [Re s xs l r b h3 h4 h5,Re s' xs' l' r' b' k3 k4 k5,obs,g1,g2,Rx s xs l r b h3 h4 h5,Rx s' xs' l' r' b' k3 k4 k5,bne_self_eq_false,cond_false,Bool.not_true]
end Go.Proofs.YtodopnonpadpfaaGreatDoor

namespace Go.Proofs.YtodopnonpadpfaaGreatDoor
open Go.RowKit Go.Deep
theorem mayReplace_walk (p:Int) (aName:ByteArray) (aBodyNodes:List (Int×Int×ByteArray)) (A_aBodyNodes:Option Addr) (c_aBodyNodes:Nat) (l_aBodyNodes:List Addr) (aPromiseLeft:Int) (aPromiseRight:Int) (aPromiseBasis:List (List Int)) (A_aPromiseBasis:Option Addr) (c_aPromiseBasis:Nat) (l_aPromiseBasis:List Addr) (bName:ByteArray) (bBodyNodes:List (Int×Int×ByteArray)) (A_bBodyNodes:Option Addr) (c_bBodyNodes:Nat) (l_bBodyNodes:List Addr) (bPromiseLeft:Int) (bPromiseRight:Int) (bPromiseBasis:List (List Int)) (A_bPromiseBasis:Option Addr) (c_bPromiseBasis:Nat) (l_bPromiseBasis:List Addr) (w:World) (_i_p: -9223372036854775808<=p∧p<=9223372036854775807) (i_aName:aName.size<=maxLen) (s_aBodyNodes:Sl (fun _=>True) w (.pair .int (.pair .int .str)) A_aBodyNodes c_aBodyNodes aBodyNodes l_aBodyNodes) (i_aBodyNodes:Ty.In (.slice (.pair .int (.pair .int .str))) aBodyNodes) (_i_aPromiseLeft: -9223372036854775808<=aPromiseLeft∧aPromiseLeft<=9223372036854775807) (_i_aPromiseRight: -9223372036854775808<=aPromiseRight∧aPromiseRight<=9223372036854775807) (s_aPromiseBasis:Sl (fun _=>True) w (.slice .int) A_aPromiseBasis c_aPromiseBasis aPromiseBasis l_aPromiseBasis) (_i_aPromiseBasis:Ty.In (.slice (.slice .int)) aPromiseBasis) (i_bName:bName.size<=maxLen) (s_bBodyNodes:Sl (fun _=>True) w (.pair .int (.pair .int .str)) A_bBodyNodes c_bBodyNodes bBodyNodes l_bBodyNodes) (i_bBodyNodes:Ty.In (.slice (.pair .int (.pair .int .str))) bBodyNodes) (_i_bPromiseLeft: -9223372036854775808<=bPromiseLeft∧bPromiseLeft<=9223372036854775807) (_i_bPromiseRight: -9223372036854775808<=bPromiseRight∧bPromiseRight<=9223372036854775807) (s_bPromiseBasis:Sl (fun _=>True) w (.slice .int) A_bPromiseBasis c_bPromiseBasis bPromiseBasis l_bPromiseBasis) (_i_bPromiseBasis:Ty.In (.slice (.slice .int)) bPromiseBasis) (tab:Tab w) :
    Calls Tryz.prog 3 #[.int .i64 p,.agg #[.string aName,.slice A_aBodyNodes aBodyNodes.length c_aBodyNodes,.int .i64 aPromiseLeft,.int .i64 aPromiseRight,.slice A_aPromiseBasis aPromiseBasis.length c_aPromiseBasis],.agg #[.string bName,.slice A_bBodyNodes bBodyNodes.length c_bBodyNodes,.int .i64 bPromiseLeft,.int .i64 bPromiseRight,.slice A_bPromiseBasis bPromiseBasis.length c_bPromiseBasis]] w fun e w'=>e=.returned (.bool true)∧Below w.heap.size w w':=by
  have hl:B1 p aName aBodyNodes aPromiseLeft aPromiseRight aPromiseBasis bName bBodyNodes bPromiseLeft bPromiseRight bPromiseBasis=some true:=Aq6 (Nat.le_trans i_aName (by decide)) (Aah s_aBodyNodes).2 (fun n hn=>Nat.le_trans (i_aBodyNodes n hn).2.2 (by decide)) (Aah s_aPromiseBasis).2 (Anj s_aPromiseBasis) (Nat.le_trans i_bName (by decide)) (Aah s_bBodyNodes).2 (fun n hn=>Nat.le_trans (i_bBodyNodes n hn).2.2 (by decide)) (Aah s_bPromiseBasis).2 (Anj s_bPromiseBasis);refine (Lg hl w (fun _=>True) [.int .i64 p,.agg #[.string aName,.slice A_aBodyNodes aBodyNodes.length c_aBodyNodes,.int .i64 aPromiseLeft,.int .i64 aPromiseRight,.slice A_aPromiseBasis aPromiseBasis.length c_aPromiseBasis],.agg #[.string bName,.slice A_bBodyNodes bBodyNodes.length c_bBodyNodes,.int .i64 bPromiseLeft,.int .i64 bPromiseRight,.slice A_bPromiseBasis bPromiseBasis.length c_bPromiseBasis]] (fun w' hb=>tab.below hb) ⟨_,_,rfl,rfl,⟨_,_,rfl,⟨_,rfl,⟨_,_,rfl,rfl,⟨_,_,rfl,⟨A_aBodyNodes,c_aBodyNodes,l_aBodyNodes,rfl,s_aBodyNodes⟩,⟨_,_,rfl,rfl,⟨_,_,rfl,rfl,⟨_,_,rfl,⟨A_aPromiseBasis,c_aPromiseBasis,l_aPromiseBasis,rfl,s_aPromiseBasis⟩,rfl⟩⟩⟩⟩⟩⟩,⟨_,_,rfl,⟨_,rfl,⟨_,_,rfl,rfl,⟨_,_,rfl,⟨A_bBodyNodes,c_bBodyNodes,l_bBodyNodes,rfl,s_bBodyNodes⟩,⟨_,_,rfl,rfl,⟨_,_,rfl,rfl,⟨_,_,rfl,⟨A_bPromiseBasis,c_bPromiseBasis,l_bPromiseBasis,rfl,s_bPromiseBasis⟩,rfl⟩⟩⟩⟩⟩⟩,rfl⟩⟩⟩).mono ?_;rintro e w' ⟨u,rfl,hb,us,ls,h1,_,rfl⟩;obtain ⟨u1,us1,rfl,h2,_,rfl,rfl⟩:=h1;obtain rfl:u1=.bool true:=h2;exact ⟨rfl,hb⟩
end Go.Proofs.YtodopnonpadpfaaGreatDoor

