import Derived.Test.YtbiopeiafkldiaaGreatDoorRP
set_option linter.all false
namespace Go.Gv.RI
open Go Go.Gv Go.Gv.D
/-! ### the number of bits -/
/-- r bits are needed for x -/
def Len (x:Int) (r:Int):Prop:=0≤r∧x<2^r.toNat∧(0<r→2^(r.toNat-1)≤x)
def len8:List UInt8:=[0,1,2,2,3,3,3,3,4,4,4,4,4,4,4,4,5,5,5,5,5,5,5,5,5,5,5,5,5,5,5,5,6,6,6,6,6,6,6,6,6,6,6,6,6,6,6,6,6,6,6,6,6,6,6,6,6,6,6,6,6,6,6,6,7,7,7,7,7,7,7,7,7,7,7,7,7,7,7,7,7,7,7,7,7,7,7,7,7,7,7,7,7,7,7,7,7,7,7,7,7,7,7,7,7,7,7,7,7,7,7,7,7,7,7,7,7,7,7,7,7,7,7,7,7,7,7,7,8,8,8,8,8,8,8,8,8,8,8,8,8,8,8,8,8,8,8,8,8,8,8,8,8,8,8,8,8,8,8,8,8,8,8,8,8,8,8,8,8,8,8,8,8,8,8,8,8,8,8,8,8,8,8,8,8,8,8,8,8,8,8,8,8,8,8,8,8,8,8,8,8,8,8,8,8,8,8,8,8,8,8,8,8,8,8,8,8,8,8,8,8,8,8,8,8,8,8,8,8,8,8,8,8,8,8,8,8,8,8,8,8,8,8,8,8,8,8,8,8,8,8,8,8,8,8,8]
theorem len8_all:((List.range 256).all fun x=>match len8[x]? with | some r=>decide ((x:Int)<2^r.toNat)&&(decide (r.toNat=0)||decide ((2:Int)^(r.toNat-1)≤(x:Int)))&&decide (r.toNat≤8) | none=>false)=true:=by kernel_rfl
theorem len8_at {x:Int} (h0:0≤x) (h1:x<256):∃ r:Int,sidx (strOf len8) x=some r∧Len x r∧r≤8:=by
 have h:=List.all_eq_true.1 len8_all x.toNat (List.mem_range.2 (by omega))
 unfold sidx
 rw[if_pos h0,show (strOf len8).data.toList=len8 from rfl]
 cases hr:len8[x.toNat]? with
 | none=>rw[hr]at h;cases h
 | some r=>
   rw[hr]at h
   simp only[Bool.and_eq_true,Bool.or_eq_true,decide_eq_true_eq,show ((x.toNat:Nat):Int)=x by omega]at h
   obtain ⟨⟨h2,h3⟩,h4⟩:=h
   refine ⟨(r.toNat:Int),rfl,⟨by omega,by simpa using h2,fun hp=>?_⟩,by omega⟩
   rcases h3 with h3 | h3
   ·omega
   ·simpa using h3
theorem Len.shift {x r:Int} {k:Nat} (h:Len (x/2^k) r) (hr:0<r):Len x (r+k):=by
 obtain ⟨h1,h2,h3⟩:=h
 have hp:(0:Int)<2^k:=Int.pow_pos (by decide)
 refine ⟨by omega,?_,fun _=>?_⟩
 ·rw[show (r+(k:Int)).toNat=r.toNat+k by omega,Int.pow_add]
  exact Int.lt_mul_of_ediv_lt hp h2
 ·rw[show (r+(k:Int)).toNat-1=(r.toNat-1)+k by omega,Int.pow_add]
  exact Int.mul_le_of_le_ediv hp (h3 hr)
theorem Len.pos {x r:Int} (h:Len x r) (hx:0<x):0<r:=by
 rcases Int.lt_or_eq_of_le h.1 with h1 | h1
 ·exact h1
 ·have:=h.2.1
  rw[← h1]at this
  simp at this
  omega
theorem len32_tot {x:Int} (h0:0≤x) (h1:x<4294967296):Tot (fun fuel=>bits_Len32 fuel x) (fun r=>Len x r∧r≤32):=by
 unfold bits_Len32
 refine Tot.bindq (P:=fun j=>∃ k:Nat,j.2=(k:Int)∧(k=0∨k=16)∧j.1=x/2^k∧j.1<65536∧(k=0∨0<j.1)) ?_ fun j ⟨k,e1,hk,e2,h3,h4⟩=>?_
 ·refine Tot.ite (fun h=>Tot.ret ⟨16,rfl,.inr rfl,Int.fdiv_eq_ediv_of_nonneg _ (by decide),?_,.inr ?_⟩) (fun h=>Tot.ret ⟨0,rfl,.inl rfl,by simp,?_,.inl rfl⟩)
  ·show x.fdiv (2^16)<65536
   rw[Int.fdiv_eq_ediv_of_nonneg _ (by decide)];omega
  ·have h:x≥65536:=of_decide_eq_true h
   show 0<x.fdiv (2^16)
   rw[Int.fdiv_eq_ediv_of_nonneg _ (by decide)];omega
  ·have h:¬ x≥65536:=of_decide_eq_false h
   show x<65536
   omega
 obtain ⟨y,z⟩:=j
 simp only at e1 e2 h3 h4
 have hy:0≤y:=by rw[e2];exact Int.ediv_nonneg h0 (Int.le_of_lt (Int.pow_pos (by decide)))
 subst e1
 refine Tot.bindq (P:=fun j=>∃ k':Nat,j.2=((k+k':Nat):Int)∧k+k'≤24∧j.1=x/2^(k+k')∧0≤j.1∧j.1<256∧(k+k'=0∨0<j.1)) ?_ fun j ⟨k',e3,hk',e4,h5,h6,h7⟩=>?_
 ·have e5:∀ k',y/2^k'=x/2^(k+k'):=fun k'=>by rw[e2,Int.pow_add,Int.ediv_ediv_of_nonneg (Int.le_of_lt (Int.pow_pos (by decide)))]
  refine Tot.ite (fun h=>?_) (fun h=>?_)
  ·have h:y≥256:=of_decide_eq_true h
   have ey:y.fdiv (2^8)=y/2^8:=Int.fdiv_eq_ediv_of_nonneg _ (by decide)
   refine Tot.ret ⟨8,?_,by omega,?_,?_,?_,.inr ?_⟩
   ·show IntKind.i64.wrap ((k:Int)+8)=_
    rw[i64_small (by omega) (by omega)];omega
   ·show y.fdiv (2^8)=_
    rw[ey,e5]
   ·show 0≤y.fdiv (2^8)
    rw[ey];omega
   ·show y.fdiv (2^8)<256
    rw[ey];omega
   ·show 0<y.fdiv (2^8)
    rw[ey];omega
  ·have h:¬ y≥256:=of_decide_eq_false h
   refine Tot.ret ⟨0,rfl,by omega,?_,hy,by show y<256;omega,?_⟩
   ·show y=_
    rw[← e5];simp
   ·rcases h4 with h4 | h4
    ·exact .inl h4
    ·exact .inr h4
 obtain ⟨u,v⟩:=j
 simp only at e3 e4 h5 h6 h7
 subst e3
 obtain ⟨r,g1,g2,g3⟩:=len8_at h5 h6
 have hw:IntKind.u8.wrap u=u:=by rw[u8_wrap];omega
 refine Tot.bind0 (a:=r) (by show sidx (strOf len8) (IntKind.u8.wrap u)=_;rw[hw];exact g1) (Tot.some_bind (Tot.ret ?_))
 have g4:=g2.1
 rw[i64_small (x:=r) (by omega) (by omega),i64_small (by omega) (by omega)]
 rw[e4]at g2
 by_cases hr:0<r
 ·have:=g2.shift hr
  rw[show ((k+k':Nat):Int)+r=r+((k+k':Nat):Int) by omega]
  exact ⟨this,by omega⟩
 ·have hr0:r=0:=by omega
  have hz:k+k'=0:=by
   rcases h7 with h7 | h7
   ·exact h7
   ·rw[e4]at h7
    exact absurd (g2.pos h7) hr
  rw[hz]at g2 ⊢
  simp at g2
  simp
  exact ⟨g2,by omega⟩
theorem Len.limbs {l:List Int} (h:Dg l) (hl:l≠[]) {r:Int} (hr:Len (l.getLast hl) r) (hp:0<r):Len (val l) (32*((l.length:Int)-1)+r):=by
 have e:=List.dropLast_concat_getLast hl
 generalize l.getLast hl=x at*
 generalize hd:l.dropLast=a at*
 subst e
 have ha:=val_bound h.left
 rw[val_snoc]
 have hpow:(4294967296:Int)^a.length=2^(32*a.length):=by rw[show (4294967296:Int)=2^32 by decide,← Int.pow_mul]
 obtain ⟨h1,h2,h3⟩:=hr
 have hlen:((a++[x]).length:Int)-1=a.length:=by simp
 rw[hlen]
 rw[hpow]at ha ⊢
 have hP:(0:Int)<2^(32*a.length):=Int.pow_pos (by decide)
 refine ⟨by omega,?_,fun _=>?_⟩
 ·rw[show (32*(a.length:Int)+r).toNat=32*a.length+r.toNat by omega,Int.pow_add]
  have:(2:Int)^(32*a.length)*(x+1)≤2^(32*a.length)*2^r.toNat:=Int.mul_le_mul_of_nonneg_left (by omega) (by omega)
  rw[Int.mul_add]at this
  omega
 ·rw[show (32*(a.length:Int)+r).toNat-1=32*a.length+(r.toNat-1) by omega,Int.pow_add]
  have:(2:Int)^(32*a.length)*2^(r.toNat-1)≤2^(32*a.length)*x:=Int.mul_le_mul_of_nonneg_left (h3 hp) (by omega)
  omega
end Go.Gv.RI
namespace Go.Gv.RI
open Go Go.Gv Go.Gv.D
/-! ### drawing bits -/
def lm (c s:Int) (n:Nat):List Int:=
 if h:n=0 then [] else (if n<32 then mixI (stp c s)/4294967296/2^(32-n) else mixI (stp c s)/4294967296)::lm c (stp c s) (n-32)
 termination_by n
theorem lm_zero (c s:Int):lm c s 0=[]:=by rw[lm];rfl
theorem lm_pos (c s:Int) {n:Nat} (h:n≠0):lm c s n=(if n<32 then mixI (stp c s)/4294967296/2^(32-n) else mixI (stp c s)/4294967296)::lm c (stp c s) (n-32):=by
 conv=>lhs;rw[lm]
 rw[dif_neg h]
theorem U_mix (x:Int):U (mixI x):=U_xor _ _
theorem high (x:Int):0≤mixI x/4294967296∧mixI x/4294967296<4294967296:=by
 have:=U_mix x
 unfold U at this
 omega
theorem lm_facts (c:Int):∀ (n:Nat) (s:Int),Dg (lm c s n)∧(lm c s n).length=(n+31)/32∧val (lm c s n)<2^n∧(0<n→mixI (it c s ((n+31)/32))<9223372036854775808→val (lm c s n)<2^(n-1)):=by
 intro n
 induction n using Nat.strongRecOn with
 | _ n ih=>
   intro s
   by_cases h0:n=0
   ·subst h0
    rw[lm_zero]
    exact ⟨fun x hx=>by simp at hx,rfl,by decide,fun h=>absurd h (by decide)⟩
   ·rw[lm_pos c s h0]
    have hx:=high (stp c s)
    obtain ⟨i1,i2,i3,i4⟩:=ih (n-32) (by omega) (stp c s)
    have hit:∀ k,0<k→it c s k=it c (stp c s) (k-1):=fun k hk=>by rw[it_shift,Nat.sub_add_cancel hk]
    have hv0:=(val_bound i1).1
    by_cases h32:n<32
    ·rw[if_pos h32]
     have hz:n-32=0:=by omega
     rw[hz,lm_zero]
     have hp:(0:Int)<2^(32-n):=Int.pow_pos (by decide)
     have hpn:(2:Int)^n*2^(32-n)=4294967296:=by rw[← Int.pow_add,show n+(32-n)=32 by omega];rfl
     have h1:mixI (stp c s)/4294967296/2^(32-n)<2^n:=Int.ediv_lt_of_lt_mul hp (by rw[hpn];exact hx.2)
     have h2:0≤mixI (stp c s)/4294967296/2^(32-n):=Int.ediv_nonneg hx.1 (Int.le_of_lt hp)
     have h3:(2:Int)^n≤4294967296:=by
      have:(2:Nat)^n≤2^32:=Nat.pow_le_pow_right (by decide) (by omega)
      have h4:((2^n:Nat):Int)≤((2^32:Nat):Int):=Int.ofNat_le.2 this
      simpa using h4
     refine ⟨Dg.one ⟨h2,Int.lt_of_lt_of_le h1 h3⟩,by simp;omega,by simpa [val] using h1,fun hpos hm=>?_⟩
     have e1:(n+31)/32=1:=by omega
     rw[e1]at hm
     have hm:mixI (stp c s)<9223372036854775808:=hm
     have hpn':(2:Int)^(n-1)*2^(32-n)=2147483648:=by rw[← Int.pow_add,show n-1+(32-n)=31 by omega];rfl
     have:mixI (stp c s)/4294967296/2^(32-n)<2^(n-1):=Int.ediv_lt_of_lt_mul hp (by rw[hpn'];omega)
     simpa [val] using this
    ·rw[if_neg h32]
     have hp2:(2:Int)^n=4294967296*2^(n-32):=by
      rw[show n=32+(n-32) by omega,Int.pow_add,show 32+(n-32)-32=n-32 by omega];rfl
     refine ⟨fun y hy=>(List.mem_cons.1 hy).elim (fun e=>by subst e;exact hx) (i1 y),by simp[i2];omega,?_,fun _ hm=>?_⟩
     ·simp only[val]
      rw[hp2]
      omega
     ·simp only[val]
      by_cases h33:n=32
      ·subst h33
       have hm:mixI (stp c s)<9223372036854775808:=hm
       rw[show 32-32=0 from rfl,lm_zero]
       simp only[val]
       have:(2:Int)^(32-1)=2147483648:=by decide
       omega
      ·have e1:(n+31)/32=(n-32+31)/32+1:=by omega
       rw[e1,← it_shift]at hm
       have:=i4 (by omega) hm
       have hp3:(2:Int)^(n-1)=4294967296*2^(n-32-1):=by
        rw[show n-1=32+(n-32-1) by omega,Int.pow_add];rfl
       rw[hp3]
       omega
/-! ### drawing below a number -/
/-- what the m-th try gives -/
def try_ (c s:Int) (size L m:Nat):List Int:=lm c (it c s (m*L)) size
/-- x and the state are what the first try below v gives -/
def Drawn (c s:Int) (v:Int) (x:List Int) (s':Int):Prop:=
 ∃ (size:Nat) (m:Nat),Len (v-1) size∧size≤4096∧s'=it c s ((m+1)*((size+31)/32))∧Trim (try_ c s size ((size+31)/32) m) x∧val x<v∧∀ m',m'<m→v≤val (try_ c s size ((size+31)/32) m')
theorem Drawn.ok {c s v:Int} {x:List Int} {s':Int} (h:Drawn c s v x s'):OkL x∧0≤val x∧val x<v:=by
 obtain ⟨size,m,h1,h2,h3,h4,h5,h6⟩:=h
 have hf:=lm_facts c size (it c s (m*((size+31)/32)))
 have hd:=h4.dg hf.1
 have hl:=h4.len
 have e:(try_ c s size ((size+31)/32) m).length=(size+31)/32:=hf.2.1
 exact ⟨⟨hd,h4.nz,by omega⟩,(val_bound hd).1,h5⟩
/-! ### an integer as a small one -/
theorem or_shift {a b:Int} (ha:0≤a∧a<4294967296) (hb:0≤b∧b<4294967296):bwOr .u64 a (b*4294967296)=a+b*4294967296:=by
 unfold bwOr
 have h1:(BitVec.ofInt 64 a ||| BitVec.ofInt 64 (b*4294967296)).toNat=a.toNat+b.toNat*4294967296:=by
  rw[BitVec.toNat_or]
  have e1:(BitVec.ofInt 64 a).toNat=a.toNat:=by simp only[BitVec.toNat_ofInt];omega
  have e2:(BitVec.ofInt 64 (b*4294967296)).toNat=2^32*b.toNat:=by simp only[BitVec.toNat_ofInt];omega
  rw[e1,e2,Nat.or_comm,← Nat.two_pow_add_eq_or_of_lt (by omega)]
  omega
 show IntKind.u64.wrap ((BitVec.ofInt 64 a ||| BitVec.ofInt 64 (b*4294967296)).toNat:Int)=_
 rw[h1,u64_wrap]
 omega
end Go.Gv.RI
namespace Go.Gv.RI
open Go Go.Gv Go.Gv.D
/-! ### digits to any base -/
def vb (b:Int):List Int→Int
 | []=>0
 | x::xs=>x+b*vb b xs
def Db (b:Int) (l:List Int):Prop:=∀ x∈l,0≤x∧x<b
section
variable {b:Int}
theorem vb_append (l m:List Int):vb b (l++m)=vb b l+b^l.length*vb b m:=by
 induction l with
 | nil=>simp[vb]
 | cons x l ih=>
   simp only[List.cons_append,vb,ih,List.length_cons,Int.pow_succ]
   grind
theorem vb_snoc (l:List Int) (x:Int):vb b (l++[x])=vb b l+b^l.length*x:=by
 rw[vb_append];simp[vb]
theorem vb_zeros:∀ k,vb b (List.replicate k 0)=0
 | 0=>rfl
 | k+1=>by simp[List.replicate_succ,vb,vb_zeros k]
theorem Db.append {l m:List Int} (ha:Db b l) (hb:Db b m):Db b (l++m):=fun x hx=>(List.mem_append.1 hx).elim (ha x) (hb x)
theorem Db.left {l m:List Int} (h:Db b (l++m)):Db b l:=fun x hx=>h x (List.mem_append_left _ hx)
theorem Db.one {x:Int} (h:0≤x∧x<b):Db b [x]:=fun y hy=>by simp at hy;subst hy;exact h
theorem Db.nil:Db b []:=fun x hx=>by simp at hx
theorem Db.take {l:List Int} (h:Db b l) (i:Nat):Db b (l.take i):=fun x hx=>h x (List.mem_of_mem_take hx)
theorem Db.drop {l:List Int} (h:Db b l) (i:Nat):Db b (l.drop i):=fun x hx=>h x (List.mem_of_mem_drop hx)
theorem Db.get {l:List Int} (h:Db b l) {i:Nat} (hi:i<l.length):0≤l[i]∧l[i]<b:=h _ (List.getElem_mem hi)
theorem vb_bound (hb:1<b) {l:List Int} (h:Db b l):0≤vb b l∧vb b l<b^l.length:=by
 induction l with
 | nil=>simp[vb]
 | cons x l ih=>
   have h1:=h x (List.mem_cons_self ..)
   have h2:=ih fun y hy=>h y (List.mem_cons_of_mem _ hy)
   simp only[vb,List.length_cons,Int.pow_succ]
   have h3:b*(vb b l+1)≤b*b^l.length:=Int.mul_le_mul_of_nonneg_left (by omega) (by omega)
   have h4:0≤b*vb b l:=Int.mul_nonneg (by omega) h2.1
   rw[Int.mul_add,Int.mul_comm b (b^l.length)]at h3
   omega
theorem pow_pos' (hb:1<b) (n:Nat):0<b^n:=Int.pow_pos (by omega)
theorem vb_mono (hb:1<b) {m n:Nat} (h:m≤n):b^m≤b^n:=by
 obtain ⟨d,rfl⟩:=Nat.exists_eq_add_of_le h
 rw[Int.pow_add]
 have h1:=pow_pos' hb m
 have h2:=pow_pos' hb d
 have:b^m*1≤b^m*b^d:=Int.mul_le_mul_of_nonneg_left (by omega) (by omega)
 omega
theorem Trim.vb {l r:List Int} (h:Trim l r):vb b r=vb b l:=by
 obtain ⟨⟨k,e⟩,_⟩:=h
 rw[e,vb_append,vb_zeros]
 omega
end
/-- digits to the base 65536 -/
abbrev w (l:List Int):Int:=vb 65536 l
/-- a number of the reference -/
def Ok3 (l:List Int):Prop:=Db 65536 l∧Nz l∧l.length≤100000
theorem h16:(1:Int)<65536:=by decide
/-! ### limbs and digits -/
end Go.Gv.RI
namespace Go.Gv.RI
open Go Go.Gv Go.Gv.D
/-! ### comparing -/
/-! ### sums -/
end Go.Gv.RI
namespace Go.Gv.RI
open Go Go.Gv Go.Gv.D
/-! ### binary digits -/
def b2 (b:Bool):Int:=if b then 1 else 0
def vbits (l:List Bool):Int:=vb 2 (l.map b2)
theorem b2_db (l:List Bool):Db 2 (l.map b2):=fun x hx=>by
 obtain ⟨b,_,rfl⟩:=List.mem_map.1 hx
 cases b<;>simp[b2]
theorem vbits_bound (l:List Bool):0≤vbits l∧vbits l<2^l.length:=by
 have:=vb_bound (by decide) (b2_db l)
 simpa [vbits] using this
theorem vbits_append (l m:List Bool):vbits (l++m)=vbits l+2^l.length*vbits m:=by
 unfold vbits
 rw[List.map_append,vb_append,List.length_map]
theorem vbits_snoc (l:List Bool) (b:Bool):vbits (l++[b])=vbits l+2^l.length*b2 b:=by
 rw[vbits_append];simp[vbits,vb]
/-- trimmed: the last digit is set -/
def TrimB (l r:List Bool):Prop:=(∃ k,l=r++List.replicate k false)∧(r=[]∨r.getLast? =some true)
theorem vbits_zeros (k:Nat):vbits (List.replicate k false)=0:=by
 unfold vbits
 rw[List.map_replicate]
 exact vb_zeros k
theorem TrimB.val {l r:List Bool} (h:TrimB l r):vbits r=vbits l:=by
 obtain ⟨⟨k,e⟩,_⟩:=h
 rw[e,vbits_append,vbits_zeros]
 omega
theorem TrimB.len {l r:List Bool} (h:TrimB l r):r.length≤l.length:=by
 obtain ⟨⟨k,e⟩,_⟩:=h
 rw[e];simp
/-- the number of digits of a trimmed list -/
theorem TrimB.Len {l r:List Bool} (h:TrimB l r):Len (vbits l) r.length:=by
 rw[← h.val]
 refine ⟨by omega,by have:=(vbits_bound r).2;simpa using this,fun hp=>?_⟩
 rcases h.2 with h0 | h0
 ·subst h0;simp at hp
 ·have hr:r≠[]:=fun e=>by subst e;simp at h0
  have e:=List.dropLast_concat_getLast hr
  have e2:r.getLast hr=true:=by
   have:=List.getLast?_eq_some_getLast hr
   rw[h0]at this
   exact (Option.some.inj this).symm
  rw[e2]at e
  have hv:=vbits_snoc r.dropLast true
  rw[e]at hv
  rw[hv]
  have:=(vbits_bound r.dropLast).1
  have hl:r.dropLast.length=r.length-1:=List.length_dropLast
  rw[hl]
  simp[b2]
  omega
end Go.Gv.RI
namespace Go.Gv.RI
open Go Go.Gv Go.Gv.D
/-! ### integers of the reference -/
theorem Ok3.nil:Ok3 []:=⟨Db.nil,.inl rfl,by decide⟩
end Go.Gv.RI
