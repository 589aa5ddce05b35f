import Derived.Test.YtbiopeiafkldiaaGreatDoorKF
set_option linter.all false
namespace Go.Gv.P
open Go Go.Gv Go.Gv.D Go.Gv.R Go.Lib
open Go.Gv.RI (val Dg Nz OkL OkI OkN vb Db IsB noz NDigits_tot DivMod_tot NMul_tot NAdd_tot NCmp_tot val_big val_bound pow_mono pow_le_left)
set_option maxRecDepth 100000
/-! Own work: filling, and the whole of Format. -/
def fillN (s:Sp):Nat:=if s.1=0 then (if s.2.2.2.2.1=true then 48 else 32) else s.1.toNat
def alN (left:Bool) (s:Sp):Int:=if s.2.1=0 then (if left=true then 60 else if s.2.2.2.2.1=true then 61 else 62) else s.2.1
def padP (ph pb:List Nat) (left:Bool) (s:Sp):List Nat:=
 let n:=s.2.2.2.2.2.1.toNat-ph.length-pb.length
 if alN left s=60 then ph++pb++List.replicate n (fillN s)
 else if alN left s=94 then List.replicate (n/2) (fillN s)++ph++pb++List.replicate (n-n/2) (fillN s)
 else if alN left s=61 then ph++List.replicate n (fillN s)++pb
 else List.replicate n (fillN s)++ph++pb
theorem fill_scal {s:Sp} (g:Good s):Scal (fillN s)∧fillN s≠0:=by
 unfold fillN
 split
 ·split<;>exact ⟨by unfold Scal;omega,by decide⟩
 ·rename_i h
  rcases g.fill with h1 | h1
  ·exact absurd h1 h
  ·exact ⟨h1.1,by omega⟩
theorem repeat_enc (c:Nat) (n:Nat):repeatL (encR c) n=enc (List.replicate n c):=by
 induction n with
 | zero=>rfl
 | succ n ih=>rw[List.replicate_succ,enc_cons,← ih];rfl
theorem pad1_tot {c:Nat} (hc:Scal c) {n:Nat} (hn:n≤100000):Tot (fun k=>fmtspec_pad_1 k (n:Int) (c:Int)) (· =strOf (enc (List.replicate n c))):=by
 unfold fmtspec_pad_1
 rw[encode_str hc]
 refine Tot.bindq (RI.Tot.all (a:=strOf (enc (List.replicate n c))) fun k=>?_) fun r hr=>by subst hr;exact Tot.ret rfl
 unfold strings_Repeat
 have:=(encR_pos c).2
 have h4:(encR c).length*n≤4*100000:=Nat.mul_le_mul (by omega) hn
 rw[size_str,bytes_str,if_pos ⟨by omega,by omega,by rw[Int.toNat_natCast];omega⟩,Int.toNat_natCast,repeat_enc]
theorem rep_len (c n:Nat):(enc (List.replicate n c)).length≤4*n:=by
 have:=enc_len_le (List.replicate n c)
 simpa using this
theorem padn_tot {ph pb:List Nat} (h1:∀ r∈ph,Scal r) (h2:∀ r∈pb,Scal r) (l1:(enc ph).length≤1000) (l2:(enc pb).length≤1048576) {left:Bool} {s:Sp} (g:Good s):
 Tot (fun k=>fmtspec_pad k (strOf (enc ph),strOf (enc pb),left) s) (· =strOf (enc (padP ph pb left s))):=by
 have hf:=fill_scal g
 have hfl:fillN s≤1114111:=scal_i32 hf.1
 have hw:=g.w
 unfold fmtspec_pad
 have hs1:0≤s.1∧s.1≤1114111:=by
  rcases g.fill with h | h
  ·omega
  ·have:=scal_i32 h.1;omega
 rw[i32_in hs1.1 hs1.2]
 refine Tot.bindq (P:=(· =(s.2.2.2.2.1&&(s.1==0)))) ?_ fun j hj=>?_
 ·refine Tot.ite (fun h=>Tot.ret (by simp[h])) (fun h=>Tot.ret (by simp[h]))
 subst hj
 refine Tot.bindq (P:=(· =if (s.2.2.2.2.1&&(s.1==0))=true then 48 else s.1)) ?_ fun j hj=>?_
 ·refine Tot.ite (fun h=>Tot.ret (by rw[if_pos h])) (fun h=>Tot.ret (by rw[if_neg (by rw[h];decide)]))
 refine Tot.bindq (P:=(· =(fillN s:Int))) ?_ fun j2 hj2=>?_
 ·unfold fillN
  by_cases h0:s.1=0
  ·by_cases hz:s.2.2.2.2.1=true
   ·have e:j=48:=by rw[hj];simp[hz,h0]
    subst e
    exact Tot.if_ rfl (Tot.ret (by simp[h0,hz]))
   ·have e:j=0:=by rw[hj];simp[hz,h0]
    subst e
    exact Tot.it rfl (Tot.ret (by simp[h0,hz]))
  ·have e:j=s.1:=by rw[hj];simp[h0]
   subst e
   refine Tot.if_ (by simpa using h0) (Tot.ret ?_)
   rw[if_neg h0];omega
 subst hj2
 refine Tot.bindq (P:=(· =alN left s)) ?_ fun j3 hj3=>?_
 ·unfold alN
  refine Tot.ite (fun h=>?_) (fun h=>Tot.ret ?_)
  ·have h:s.2.1=0:=by simpa using h
   rw[if_pos h]
   refine Tot.bindq (P:=(· =if left=true then 60 else if s.2.2.2.2.1=true then 61 else 62)) ?_ fun j hj=>by subst hj;exact Tot.ret rfl
   refine Tot.ite (fun h=>Tot.ret ?_) (fun h=>?_)
   ·have h:left=true:=h
    simp[h]
   ·have h:left=false:=h
    subst h
    exact Tot.ite (fun h=>Tot.ret (by simp[h])) (fun h=>Tot.ret (by simp[h]))
  ·have h:s.2.1≠0:=by simpa using h
   rw[if_neg h]
 subst hj3
 refine Tot.bindq (RuneCount_tot h1 (by omega)) fun c1 hc1=>?_
 subst hc1
 refine Tot.bindq (RuneCount_tot h2 l2) fun c2 hc2=>?_
 subst hc2
 have le1:ph.length≤(enc ph).length:=enc_len_ge ph
 have le2:pb.length≤(enc pb).length:=enc_len_ge pb
 rw[i64_small (x:=s.2.2.2.2.2.1-(ph.length:Int)) (by omega) (by omega),i64_small (x:=s.2.2.2.2.2.1-(ph.length:Int)-(pb.length:Int)) (by omega) (by omega)]
 have en:(if 0<s.2.2.2.2.2.1-(ph.length:Int)-(pb.length:Int) then s.2.2.2.2.2.1-(ph.length:Int)-(pb.length:Int) else 0)=((s.2.2.2.2.2.1.toNat-ph.length-pb.length:Nat):Int):=by split<;>omega
 rw[en]
 unfold padP
 generalize hn:s.2.2.2.2.2.1.toNat-ph.length-pb.length=n
 have hn4:n≤400:=by omega
 refine Tot.some_bind ?_
 have e2:IntKind.i64.wrap ((n:Int).tdiv 2)=((n/2:Nat):Int):=by rw[Int.tdiv_eq_ediv_of_nonneg (by omega)];exact iw (by omega) (by omega)
 have e3:IntKind.i64.wrap ((n:Int)-((n/2:Nat):Int))=((n-n/2:Nat):Int):=iw (by omega) (by omega)
 have r0:=rep_len (fillN s) n
 have r1:=rep_len (fillN s) (n/2)
 have r2:=rep_len (fillN s) (n-n/2)
 have cat3:∀ {x y:List Nat},(enc x).length+(enc y).length≤9223372036854775807→cat (strOf (enc x)) (strOf (enc y))=some (strOf (enc (x++y))):=fun {x y} h=>by rw[cat_str h,enc_app]
 have len3:∀ {x y:List Nat},(enc (x++y)).length=(enc x).length+(enc y).length:=fun {x y}=>by rw[enc_app,List.length_append]
 refine Tot.ite (fun h=>?_) (fun h=>?_)
 ·rw[if_pos (by simpa using h)]
  refine Tot.bind0 (cat3 (by omega)) (Tot.bindq (pad1_tot hf.1 (by omega)) fun r hr=>?_)
  subst hr
  exact Tot.bind0 (cat3 (by rw[len3];omega)) (Tot.ret rfl)
 ·rw[if_neg (by simpa using h)]
  refine Tot.ite (fun h=>?_) (fun h=>?_)
  ·rw[if_pos (by simpa using h),e2,e3]
   refine Tot.bindq (pad1_tot hf.1 (by omega)) fun r hr=>?_
   subst hr
   refine Tot.bind0 (cat3 (by omega)) (Tot.bind0 (cat3 (by rw[len3];omega)) (Tot.bindq (pad1_tot hf.1 (by omega)) fun r hr=>?_))
   subst hr
   exact Tot.bind0 (cat3 (by rw[len3,len3];omega)) (Tot.ret rfl)
  ·rw[if_neg (by simpa using h)]
   refine Tot.ite (fun h=>?_) (fun h=>?_)
   ·rw[if_pos (by simpa using h)]
    refine Tot.bindq (pad1_tot hf.1 (by omega)) fun r hr=>?_
    subst hr
    exact Tot.bind0 (cat3 (by omega)) (Tot.bind0 (cat3 (by rw[len3];omega)) (Tot.ret rfl))
   ·rw[if_neg (by simpa using h)]
    refine Tot.bindq (pad1_tot hf.1 (by omega)) fun r hr=>?_
    subst hr
    exact Tot.bind0 (cat3 (by omega)) (Tot.bind0 (cat3 (by rw[len3];omega)) (Tot.ret rfl))
end Go.Gv.P
namespace Go.Gv.P
open Go Go.Gv Go.Gv.D Go.Gv.R Go.Lib
open Go.Gv.RI (val Dg Nz OkL OkI OkN vb Db IsB noz NDigits_tot DivMod_tot NMul_tot NAdd_tot NCmp_tot val_big val_bound pow_mono pow_le_left)
set_option maxRecDepth 100000
/-! Own work: what is formatted is made of plain letters, and not too long. -/
def low (l:List UInt8):Prop:=∀ b∈l,b.toNat<128
theorem low_nil:low []:=fun b hb=>by simp at hb
theorem low.app {a b:List UInt8} (h1:low a) (h2:low b):low (a++b):=fun x hx=>(List.mem_append.1 hx).elim (h1 x) (h2 x)
theorem low.cons {x:UInt8} {l:List UInt8} (h1:x.toNat<128) (h2:low l):low (x::l):=fun y hy=>by
 rcases List.mem_cons.1 hy with e | e
 ·subst e;exact h1
 ·exact h2 y e
theorem low.take {l:List UInt8} (h:low l) (n:Nat):low (l.take n):=fun b hb=>h b (List.mem_of_mem_take hb)
theorem low.drop {l:List UInt8} (h:low l) (n:Nat):low (l.drop n):=fun b hb=>h b (List.mem_of_mem_drop hb)
theorem low_rep {c:UInt8} (h:c.toNat<128) (n:Nat):low (List.replicate n c):=fun b hb=>by rw[List.eq_of_mem_replicate hb];exact h
theorem low_join {c:UInt8} (hc:c.toNat<128):∀ {ps:List (List UInt8)},low ps.flatten→low (join ps [c])
 | [],_=>by simp[join,low_nil]
 | [x],h=>by rw[join_one];simpa using h
 | x::y::r,h=>by
   have e:join (x::y::r) [c]=x++c::join (y::r) [c]:=by
    rw[join_cons,join_cons]
    simp[joinTail]
   rw[e]
   rw[List.flatten_cons]at h
   exact low.app (fun b hb=>h b (List.mem_append_left _ hb)) (low.cons hc (low_join hc fun b hb=>h b (List.mem_append_right _ hb)))
theorem low_grp {g:Int} (hg:g=0∨g=44∨g=95) {z:Nat} (hz:1≤z) {l:List UInt8} (h:low l):low (grp g z l):=by
 unfold grp
 split
 ·exact h
 ·refine low_join (by rcases hg with e | e | e<;>subst e<;>decide) ?_
  rw[(gps_len hz l.length l rfl).2]
  exact h
theorem low_dg {l:List UInt8} (h:∀ b∈l,dg b=true):low l:=fun b hb=>by have:=dg_byte (h b hb);omega
theorem low_sgn (neg:Bool) (sg:Int):low (sgnS neg sg):=by
 unfold sgnS
 split
 ·exact low.cons (by decide) low_nil
 ·split
  ·rename_i h
   refine low.cons ?_ low_nil
   rcases h with h | h<;>rw[h]<;>decide
  ·exact low_nil
theorem low_pfx (ty:Int):low (pfx ty):=by
 unfold pfx
 intro b hb
 split at hb
 ·revert b;decide
 ·split at hb
  ·revert b;decide
  ·split at hb
   ·revert b;decide
   ·split at hb
    ·revert b;decide
    ·simp at hb
theorem low_wn {a:List Int} {B:Int} (ha:Dg a) (hB:IsB B):low (wn B (val a)):=wn_low hB (val_bound ha).1
theorem low_wn' {V:Int} (h:0≤V):low (wn 10 V):=wn_low (.inr (.inr (.inl rfl))) h
theorem low_dig {a:List Int} (ha:OkL a) (ty:Int):low (digW (val a) ty):=by
 unfold digW
 split
 ·intro b hb
  unfold toUpperA at hb
  obtain ⟨c,hc,rfl⟩:=List.mem_map.1 hb
  have:=low_wn ha.1 (bsOf_ok ty) c hc
  have h1:(List.range 128).all (fun n=>decide ((upperB (UInt8.ofNat n)).toNat<128))=true:=by kernel_rfl
  have h2:=List.all_eq_true.1 h1 c.toNat (List.mem_range.2 this)
  rw[UInt8.ofNat_toNat]at h2
  exact of_decide_eq_true h2
 ·exact low_wn ha.1 (bsOf_ok ty)
theorem low_padZ {pl:Nat} {d:List UInt8} (h:low d):low (padZ pl d):=low.app (low_rep (by decide) _) h
theorem low_fixS {a b:Int} (ha:0≤a) (hb:0<b) {pl:Nat} {g:Int} (hg:g=0∨g=44∨g=95):low (fixS a b pl g):=by
 have h0:0≤nea (a*10^pl) b:=nea_nonneg (Int.mul_nonneg ha (Int.le_of_lt (ten_pow_pos pl))) hb
 have h:=low_padZ (pl:=pl) (low_wn' h0)
 unfold fixS point
 split
 ·exact (low_grp hg (by omega) (h.take _)).app (low.cons (by decide) (h.drop _))
 ·exact low_grp hg (by omega) (h.take _)
theorem scA_nonneg {a n:Int} (h:0≤a):0≤scA a n:=by
 unfold scA
 split
 ·exact Int.mul_nonneg h (Int.le_of_lt (ten_pow_pos _))
 ·exact h
theorem scB_pos {b n:Int} (h:0<b):0<scB b n:=by
 unfold scB
 split
 ·exact h
 ·exact Int.mul_pos h (ten_pow_pos _)
theorem low_mant {a b:Int} (ha:0≤a) (hb:0<b) (pl:Nat):low (mant a b pl).2:=by
 unfold mant
 have h:=low_wn' (nea_nonneg (scA_nonneg (n:=(pl:Int)-expo a b) ha) (scB_pos (n:=(pl:Int)-expo a b) hb))
 split
 ·exact low_rep (by decide) _
 ·split
  ·exact h.take _
  ·exact h
theorem low_exp {e:Int} (h:e.natAbs<1400):low (expS e):=by
 unfold expS
 refine low.app (low.app ?_ ?_) (low_dg (itoa4 h).1)
 ·split<;>(intro b;revert b;decide)
 ·split
  ·exact low.cons (by decide) low_nil
  ·exact low_nil
theorem low_sci {a b:Int} (ha:0≤a) (hb:0<b) {pl:Nat} (he:(mant a b pl).1.natAbs<1400):low (sciS a b pl):=by
 have h:=low_mant ha hb pl
 unfold sciS
 refine low.app (low.app (h.take _) ?_) (low_exp he)
 split
 ·exact low.cons (by decide) (h.drop _)
 ·exact low_nil
theorem sci_len {a b:Int} {pl:Nat} (hm:(mant a b pl).2.length≤20001) (h1: -1301≤(mant a b pl).1) (h2:(mant a b pl).1≤1301):(sciS a b pl).length≤30000:=by
 have:=expS_len h1 h2
 unfold sciS
 rw[List.length_append,List.length_append,List.length_take]
 split<;>simp<;>omega
/-- a field that may be filled: letters, not too many -/
def FdOk (f:Fd):Prop:=f.2=(0,0)→(low f.1.1∧f.1.1.length≤10)∧(low f.1.2.1∧f.1.2.1.length≤100000)∧f.1.2.2=false
theorem no_ok (c:Int) (hc:c≠0):FdOk (noF c):=fun h=>by simp[noF]at h
theorem frc_ok {neg:Bool} {a b:List Int} (ha:OkL a) (hb:OkL b) (hb0:b≠[]) {s:Sp} (g:Good s):FdOk (frcF neg (val a) (val b) s):=by
 have h1:=(val_bound ha.1).1
 have h2:=RI.val_pos hb.1 hb.2.1 hb0
 have hpl:=plc_le g
 have la:a.length≤200:=Nat.le_trans ha.2.2 (by decide)
 have lb:b.length≤200:=Nat.le_trans hb.2.2 (by decide)
 unfold frcF
 split
 ·exact no_ok 6 (by decide)
 ·refine fun _=>⟨⟨low_sgn _ _,by have:=sgnS_len neg s.2.2.1;simp only;omega⟩,?_,rfl⟩
  show low (frcB (val a) (val b) s)∧(frcB (val a) (val b) s).length≤100000
  unfold frcB
  split
  ·obtain ⟨r,⟨_,m1,m2,m3⟩,_⟩:=scientific_tot ha hb hb0 (pl:=plc s) (by omega)
   exact ⟨low_sci h1 h2 (by omega),by have:=sci_len m1 m2 m3;omega⟩
  ·split
   ·obtain ⟨m,⟨m1,m2,m3,m4⟩,_⟩:=NMul_tot (okN_of ha) (okN_one (x:=100) (by decide)) (by simp;omega)
    obtain ⟨r,⟨_,hl⟩,_⟩:=fixed2_tot m2 (okN_of hb) hb0 (pl:=plc s) (by omega) (gr_of g) (by simp at m4;omega) lb
    rw[m3,show val [100]=100 by simp[val]]at hl
    exact ⟨(low_fixS (Int.mul_nonneg h1 (by decide)) h2 (gr_of g)).app (low.cons (by decide) low_nil),by simp;omega⟩
   ·obtain ⟨r,⟨_,hl⟩,_⟩:=fixed2_tot (okN_of ha) (okN_of hb) hb0 (pl:=plc s) (by omega) (gr_of g) (by omega) lb
    exact ⟨low_fixS h1 h2 (gr_of g),by omega⟩
theorem who_ok {neg:Bool} {a:List Int} (ha:OkL a) {s:Sp} (g:Good s):FdOk (whoF neg (val a) s):=by
 unfold whoF
 split
 ·exact no_ok 6 (by decide)
 ·have hd:=digW_len ha s.2.2.2.2.2.2.2.2.2
  have hz:1≤(if bsOf s.2.2.2.2.2.2.2.2.2≠10 then 4 else 3):=by split<;>omega
  refine fun _=>⟨⟨(low_sgn _ _).app (by split;exact low_pfx _;exact low_nil),?_⟩,⟨low_grp (gr_of g) hz (low_dig ha _),?_⟩,rfl⟩
  ·have hs:=sgnS_len neg s.2.2.1
   have hpf:(if s.2.2.2.1=true then pfx s.2.2.2.2.2.2.2.2.2 else []).length≤2:=by
    split
    ·unfold pfx;split<;>(try split)<;>(try split)<;>(try split)<;>simp
    ·simp
   simp only[List.length_append]
   omega
  ·have:=grp_len (g:=s.2.2.2.2.2.2.1) hz (digW (val a) s.2.2.2.2.2.2.2.2.2)
   simp only
   omega
theorem num_ok {neg:Bool} {a:List Int} (ha:OkL a) {s:Sp} (g:Good s):FdOk (numF neg (val a) s):=by
 unfold numF
 split
 ·exact no_ok 13 (by decide)
 ·split
  ·have:=frc_ok (neg:=neg) ha (b:=[1]) ⟨(okN_one (x:=1) (by decide)).1,(okN_one (x:=1) (by decide)).2.1,by simp⟩ (by simp) g
   rwa [show val [1]=1 by simp[val]]at this
  ·exact who_ok ha g
theorem rat_ok {neg:Bool} {a b:List Int} (ha:OkL a) (hb:OkL b) (hb0:b≠[]) {s:Sp} (g:Good s):FdOk (ratF neg (val a) (val b) s):=by
 unfold ratF
 split
 ·exact frc_ok ha hb hb0 g
 ·split
  ·exact no_ok 13 (by decide)
  ·split
   ·exact no_ok 6 (by decide)
   ·have h1:=wn_len128 ha
    have h2:=wn_len128 hb
    have h3:=sgnS_len neg s.2.2.1
    refine fun _=>⟨⟨low_sgn _ _,by simp only;omega⟩,⟨(low_wn ha.1 (.inr (.inr (.inl rfl)))).app (low.cons (by decide) (low_wn hb.1 (.inr (.inr (.inl rfl))))),by simp;omega⟩,rfl⟩
end Go.Gv.P
