import Derived.Test.YtbiopeiafkldiaaGreatDoorX1
import Derived.Test.YtbiopeiafkldiaaGreatDoorX1
set_option linter.all false
namespace Go.Gv.P
open List renaming takeWhile_cons→aa,mem_cons_self→ac,mem_cons_of_mem→ad
open Bool renaming and_eq_true→ab
open Go Go.Gv Go.Gv.D Go.Gv.R Go.Lib
set_option maxRecDepth 100000
theorem inC_lt {S:List UInt8} {c:Nat} (h:inC S c=true):c<128:=by
 simp only[inC,ab,decide_eq_true_eq]at h;exact h.1
theorem inNZ {c:Nat}:inC NZ c=(decide (49≤c)&&decide (c≤57)):=by
 rcases Nat.lt_or_ge c 128 with h | h
 ·have:(List.range 128).all (fun c=>inC NZ c==(decide (49≤c)&&decide (c≤57)))=true:=by kernel_rfl
  exact beq_iff_eq.1 (List.all_eq_true.1 this c (List.mem_range.2 h))
 ·rw[inC,dff om,dff (show ¬ c≤57 by omega)];simp
theorem nb_cons (c:Nat) (r:List Nat):nb (c::r)=if c=48 then (0,r) else if dgN c=true then (((min (valN 0 (enc (twN (c::r)))) 401:Nat):Int),dwN (c::r)) else (-1,c::r):=rfl
theorem wd_cons (c:Nat) (r:List Nat):wd (c::r)=if c=48 then (0,c::r) else (if 0<(nb (c::r)).1 then (nb (c::r)).1 else 0,(nb (c::r)).2):=by
 unfold wd;simp only[List.head?_cons,Option.some.injEq]
theorem wd_eq (l:List Nat):wd l=if hdC NZ l=true then (((min (valN 0 (enc (twN l))) 401:Nat):Int),dwN l) else (0,l):=by
 cases l with
 | nil=>rfl
 | cons c r=>
   rw[wd_cons,nb_cons,show hdC NZ (c::r)=inC NZ c from rfl,inNZ]
   by_cases h:c=48
   ·subst h;rfl
   ·rw[if_neg h,if_neg h]
    by_cases hd:dgN c=true
    ·have:=dg_range hd
     have hb:(decide (49≤c)&&decide (c≤57))=true:=by rw[ab,decide_eq_true_eq,decide_eq_true_eq];omega
     rw[if_pos hd,hb]
     simp only[if_true,Prod.mk.injEq,and_true]
     split<;>omega
    ·have hb:(decide (49≤c)&&decide (c≤57))=false:=by
      refine Bool.eq_false_iff.2 fun hh=>hd ?_
      rw[ab,decide_eq_true_eq,decide_eq_true_eq]at hh
      rw[dgN,dtt om,dtt om];rfl
     rw[if_neg hd,hb];rfl
/-- the digits of a precision are refused -/
def badP (l:List Nat):Bool:=decide (twN l=[])||(decide (1<(twN l).length)&&(l.headD 0==48))
theorem nb_of {l:List Nat} (h:badP l=false):nb l=(((min (valN 0 (enc (twN l))) 401:Nat):Int),dwN l):=by
 cases l with
 | nil=>cases h
 | cons c r=>
   rw[nb_cons]
   simp only[badP,Bool.or_eq_false_iff,decide_eq_false_iff_not,Bool.and_eq_false_iff,List.headD_cons,beq_eq_false_iff_ne]at h
   obtain ⟨h1,h2⟩:=h
   have hd:dgN c=true:=by
    cases hc:dgN c
    ·exact absurd (by unfold twN;rw[aa,hc];rfl) h1
    ·rfl
   by_cases h48:c=48
   ·rw[if_pos h48]
    have hr:twN r=[]:=by
     rcases h2 with h2 | h2
     ·have e:twN (c::r)=c::twN r:=by unfold twN;rw[aa,hd];rfl
      rw[e]at h2
      simpa using h2
     ·exact absurd h48 h2
    have e:twN (c::r)=[c]:=by unfold twN at hr ⊢;rw[aa,hd];simp[hr]
    have e2:dwN (c::r)=r:=by
     have:=twN_dwN (c::r)
     rw[e]at this
     simpa using this
    rw[e,e2,h48]
    rfl
   ·rw[if_neg h48,if_pos hd]
end Go.Gv.P
namespace Go.Gv.P
open List renaming takeWhile_cons→aa,mem_cons_self→ac,mem_cons_of_mem→ad
open Bool renaming and_eq_true→ab
open Go Go.Gv Go.Gv.D Go.Gv.R Go.Lib
set_option maxRecDepth 100000
def inB (S:List UInt8) (x:Int):Bool:=S.contains (UInt8.ofNat x.toNat)
theorem byte_cast {x:Int} (h:0≤x∧x<256):x=(((UInt8.ofNat x.toNat).toNat:Nat):Int):=by
 rw[UInt8.toNat_ofNat',Nat.mod_eq_of_lt om];omega
structure SpOk (s:Sp):Prop where
 al:0≤s.2.1∧s.2.1<256
 sg:0≤s.2.2.1∧s.2.2.1<256
 gr:0≤s.2.2.2.2.2.2.1∧s.2.2.2.2.2.2.1<256
 ty:0≤s.2.2.2.2.2.2.2.2.2∧s.2.2.2.2.2.2.2.2.2<256
theorem i32_in {x:Int} (h0:0≤x) (h1:x≤1114111):IntKind.i32.wrap x=x:=i32_small h0 om
end Go.Gv.P
namespace Go.Gv.P
open List renaming takeWhile_cons→aa,mem_cons_self→ac,mem_cons_of_mem→ad
open Bool renaming and_eq_true→ab
open Go Go.Gv Go.Gv.D Go.Gv.R Go.Lib
set_option maxRecDepth 100000
theorem encode_str {r:Nat} (h:Scal r):Utf8.encode (r:Int)=strOf (encR r):=by
 have hv:Utf8.valid (r:Int)=true:=by
  unfold Utf8.valid
  rcases h with h | ⟨h1,h2⟩
  ·rw[dtt (show (0:Int)≤(r:Int) by omega),dtt (show (r:Int)<0xD800 by omega)];rfl
  ·rw[dtt (show (0xE000:Int)≤(r:Int) by omega),dtt (show (r:Int)≤0x10FFFF by omega),Bool.and_true,Bool.or_true]
 have hs:r≤1114111:=by unfold Scal at h;omega
 unfold Utf8.encode
 simp only[hv,if_true,Int.toNat_natCast]
 by_cases h1:r<0x80
 ·rw[if_pos h1,encR1 om];rfl
 ·rw[if_neg h1]
  by_cases h2:r<0x800
  ·rw[if_pos h2,encR2 om om];rfl
  ·rw[if_neg h2]
   by_cases h3:r<0x10000
   ·rw[if_pos h3,encR3 om om h];rfl
   ·rw[if_neg h3,encR4 om hs];rfl
def itoaB (n:Nat):List UInt8:=Lib.itoa (n:Int)
theorem itoa_all:(List.range 401).all (fun n=>let l:=itoaB n;l.all dg&&((valN 0 l==n)&&((if n=0 then l==[48] else !(l.headD 48==48))&&(!l.isEmpty&&decide (l.length≤3)))))=true:=by kernel_rfl
structure ItOk (n:Nat):Prop where
 dg:∀ b∈itoaB n,dg b=true
 val:valN 0 (itoaB n)=n
 zero:n=0→itoaB n=[48]
 head:n≠0→(itoaB n).headD 48≠48
 ne:itoaB n≠[]
 len:(itoaB n).length≤3
theorem itOk {n:Nat} (h:n≤400):ItOk n:=by
 have:=List.all_eq_true.1 itoa_all n (List.mem_range.2 om)
 simp only[ab,beq_iff_eq,decide_eq_true_eq]at this
 obtain ⟨h1,h2,h3,h4,h5⟩:=this
 refine ⟨fun b hb=>List.all_eq_true.1 h1 b hb,h2,fun e=>?_,fun e=>?_,fun e=>(by rw[e]at h4;cases h4),h5⟩
 ·rw[if_pos e]at h3;exact eq_of_beq h3
 ·rw[if_neg e]at h3
  simpa using h3
def itN (n:Nat):List Nat:=(itoaB n).map (·.toNat)
theorem enc_bytes:∀ {l:List UInt8},(∀ b∈l,b.toNat<128)→enc (l.map (·.toNat))=l
 | [],_=>rfl
 | b::r,h=>by
   rw[List.map_cons,enc_cons,encR1 (by have:=h b (ac ..);omega),enc_bytes fun x hx=>h x (ad _ hx),UInt8.ofNat_toNat];rfl
theorem dg_byte {b:UInt8} (h:dg b=true):48≤b.toNat∧b.toNat≤57:=by simpa [dg] using h
theorem enc_itN {n:Nat} (h:n≤400):enc (itN n)=itoaB n:=enc_bytes fun b hb=>by have:=dg_byte ((itOk h).dg b hb);omega
theorem itN_dg {n:Nat} (h:n≤400):∀ c∈itN n,dgN c=true:=fun c hc=>by
 obtain ⟨b,hb,rfl⟩:=List.mem_map.1 hc
 exact (itOk h).dg b hb
theorem itN_len {n:Nat} (h:n≤400):(itN n).length≤3:=by unfold itN;rw[List.length_map];exact (itOk h).len
def optN (b:Bool) (l:List Nat):List Nat:=if b then l else []
def T7 (s:Sp):List Nat:=optN (s.2.2.2.2.2.2.2.2.2 !=0) [s.2.2.2.2.2.2.2.2.2.toNat]
def T6 (s:Sp):List Nat:=optN s.2.2.2.2.2.2.2.1 (46::itN s.2.2.2.2.2.2.2.2.1.toNat)++T7 s
def T5 (s:Sp):List Nat:=optN (s.2.2.2.2.2.2.1 !=0) [s.2.2.2.2.2.2.1.toNat]++T6 s
def T4 (s:Sp):List Nat:=optN (decide (s.2.2.2.2.2.1>0)) (itN s.2.2.2.2.2.1.toNat)++T5 s
def T3 (s:Sp):List Nat:=optN s.2.2.2.2.1 [48]++T4 s
def T2 (s:Sp):List Nat:=optN s.2.2.2.1 [35]++T3 s
def T1 (s:Sp):List Nat:=optN (s.2.2.1 !=0) [s.2.2.1.toNat]++T2 s
def T0 (s:Sp):List Nat:=optN (s.2.1 !=0) [s.2.1.toNat]++T1 s
/-- how a specification is written -/
def wr (s:Sp):List Nat:=optN (s.1 !=0) [s.1.toNat]++T0 s
structure Good (s:Sp):Prop where
 ok:SpOk s
 fill:s.1=0∨(Scal s.1.toNat∧0≤s.1∧s.1≠123∧s.1≠125∧s.2.1≠0)
 al:s.2.1=0∨inB AL s.2.1=true
 sg:s.2.2.1=0∨inB SG s.2.2.1=true
 gr:s.2.2.2.2.2.2.1=0∨inB GR s.2.2.2.2.2.2.1=true
 ty:s.2.2.2.2.2.2.2.2.2=0∨inB TY s.2.2.2.2.2.2.2.2.2=true
 w:0≤s.2.2.2.2.2.1∧s.2.2.2.2.2.1≤400
 p:0≤s.2.2.2.2.2.2.2.2.1∧s.2.2.2.2.2.2.2.2.1≤400
 pz:s.2.2.2.2.2.2.2.1=false→s.2.2.2.2.2.2.2.2.1=0
theorem inB_nat {S:List UInt8} (hS:SetOk S) {x:Int} (hx:0≤x∧x<256) (h:inB S x=true):inC S x.toNat=true∧0<x∧x<128:=by
 have hl:=hS.low _ h
 have hc:=byte_cast hx
 have h2:x<128:=by omega
 refine ⟨?_,om,h2⟩
 unfold inC
 rw[dtt om,Bool.true_and]
 exact h
theorem len1 {b:Bool} {x:Nat}:(optN b [x]).length≤1:=by cases b<;>simp[optN]
theorem optN_len {b:Bool} {l:List Nat}:(optN b l).length≤l.length:=by cases b<;>simp[optN]
end Go.Gv.P
namespace Go.Gv.P
open List renaming takeWhile_cons→aa,mem_cons_self→ac,mem_cons_of_mem→ad
open Bool renaming and_eq_true→ab
open Go Go.Gv Go.Gv.D Go.Gv.R Go.Lib
set_option maxRecDepth 100000
theorem u8_cast {x:Int} (h:0≤x∧x<256):u8 x=some (UInt8.ofNat x.toNat):=by
 have:=u8_ok (n:=x.toNat) om
 rwa [show ((x.toNat:Nat):Int)=x by omega]at this
end Go.Gv.P
namespace Go.Gv.P
open List renaming takeWhile_cons→aa,mem_cons_self→ac,mem_cons_of_mem→ad
open Bool renaming and_eq_true→ab
open Go Go.Gv Go.Gv.D Go.Gv.R Go.Lib
set_option maxRecDepth 100000
def hdIn (H:List UInt8) (T:List Nat):Prop:=T=[]∨∃ c r,T=c::r∧inC H c=true
def disj (S H:List UInt8):Bool:=(List.range 128).all fun c=> !(inC S c&&inC H c)
theorem disj_at {S H:List UInt8} (h:disj S H=true) {c:Nat} (hc:inC H c=true):inC S c=false:=by
 have:=List.all_eq_true.1 h c (List.mem_range.2 (inC_lt hc))
 rw[hc,Bool.and_true]at this
 simpa using this
theorem hdC_of {S H:List UInt8} (h:disj S H=true) {T:List Nat} (hT:hdIn H T):hdC S T=false:=by
 rcases hT with rfl | ⟨c,r,rfl,hc⟩
 ·rfl
 ·exact disj_at h hc
theorem inC_app {S H:List UInt8} {c:Nat}:inC (S++H) c=(inC S c||inC H c):=by
 unfold inC
 cases decide (c<128)
 ·rfl
 ·simp[Bool.eq_iff_iff]
theorem hdIn_opt {S H:List UInt8} {b:Bool} {l T:List Nat} (hl:b=true→∃ c r,l=c::r∧inC S c=true) (hT:hdIn H T):hdIn (S++H) (optN b l++T):=by
 cases b
 ·rcases hT with rfl | ⟨c,r,rfl,hc⟩
  ·exact .inl rfl
  ·exact .inr ⟨c,r,rfl,by rw[inC_app,hc,Bool.or_true]⟩
 ·obtain ⟨c,r,rfl,hc⟩:=hl rfl
  exact .inr ⟨c,r++T,rfl,by rw[inC_app,hc,Bool.true_or]⟩
theorem tk_opt {S:List UInt8} {b:Bool} {x:Nat} {T:List Nat} (hb:b=true→inC S x=true) (hT:hdC S T=false):tk S (optN b [x]++T)=(if b=true then x else 0,T):=by
 rw[tk_hd]
 cases b
 ·rw[show optN false [x]++T=T from rfl,hT];rfl
 ·rw[show optN true [x]++T=x::T from rfl,show hdC S (x::T)=inC S x from rfl,hb rfl];rfl
theorem tw_app:∀ {D T:List Nat},(∀ c∈D,dgN c=true)→(T=[]∨∃ c r,T=c::r∧dgN c=false)→twN (D++T)=D∧dwN (D++T)=T
 | [],T,_,hT=>by
   rcases hT with rfl | ⟨c,r,rfl,hc⟩
   ·exact ⟨rfl,rfl⟩
   ·unfold twN dwN;rw[List.nil_append,aa,List.dropWhile_cons,hc];exact ⟨rfl,rfl⟩
 | d::D,T,hD,hT=>by
   have hd:=hD d (ac ..)
   obtain ⟨h1,h2⟩:=tw_app (D:=D) (T:=T) (fun c hc=>hD c (ad _ hc)) hT
   unfold twN dwN at*
   rw[List.cons_append,aa,List.dropWhile_cons,hd]
   exact ⟨by simp[h1],by simpa using h2⟩
def H6:List UInt8:=PT++TY
def H5:List UInt8:=GR++H6
def H4:List UInt8:=NZ++H5
def H3:List UInt8:=ZE++H4
def H2:List UInt8:=BA++H3
def H1:List UInt8:=SG++H2
theorem dig_of {H:List UInt8} (h:((List.range 128).all fun c=> !(inC H c&&dgN c))=true) {T:List Nat} (hT:hdIn H T):T=[]∨∃ c r,T=c::r∧dgN c=false:=by
 rcases hT with rfl | ⟨c,r,rfl,hc⟩
 ·exact .inl rfl
 ·have:=List.all_eq_true.1 h c (List.mem_range.2 (inC_lt hc))
  rw[hc,Bool.true_and]at this
  exact .inr ⟨c,r,rfl,by simpa using this⟩
section
variable {s:Sp} (g:Good s)
include g
theorem opt_byte {S:List UInt8} (hS:SetOk S) {x:Int} (hx:0≤x∧x<256) (h:x=0∨inB S x=true):(x !=0)=true→inC S x.toNat=true:=fun hne=>by
 rcases h with h | h
 ·rw[h]at hne;cases hne
 ·exact (inB_nat hS hx h).1
theorem opt_val {x:Int} (hx:0≤x):(((if (x !=0)=true then x.toNat else 0:Nat)):Int)=x:=by
 by_cases h:x=0
 ·rw[h];rfl
 ·rw[if_pos (by simpa using h)];omega
theorem hd7:hdIn TY (T7 s):=by
 have:=hdIn_opt (S:=TY) (H:=[]) (T:=[]) (l:=[s.2.2.2.2.2.2.2.2.2.toNat]) (fun h=>⟨_,_,rfl,opt_byte g TY_ok g.ok.ty g.ty h⟩) (.inl rfl)
 rw[List.append_nil,List.append_nil]at this
 exact this
theorem hd6:hdIn H6 (T6 s):=hdIn_opt (fun _=>⟨46,_,rfl,by rfl⟩) (hd7 g)
theorem hd5:hdIn H5 (T5 s):=hdIn_opt (fun h=>⟨_,_,rfl,opt_byte g GR_ok g.ok.gr g.gr h⟩) (hd6 g)
theorem itN_head {n:Nat} (h:n≤400) (h0:n≠0):∃ c r,itN n=c::r∧inC NZ c=true:=by
 have i:=itOk h
 cases hl:itoaB n with
 | nil=>exact absurd hl i.ne
 | cons b t=>
   have h1:=dg_byte (i.dg b (by rw[hl];exact ac ..))
   have h2:=i.head h0
   rw[hl]at h2
   have h3:b.toNat≠48:=fun e=>h2 (UInt8.toNat_inj.1 e)
   refine ⟨b.toNat,t.map (·.toNat),by unfold itN;rw[hl];rfl,?_⟩
   rw[inNZ,dtt om,dtt om];rfl
theorem hd4:hdIn H4 (T4 s):=hdIn_opt (fun h=>itN_head g (by have:=g.w;omega) (by have:=odt h;omega)) (hd5 g)
theorem hd3:hdIn H3 (T3 s):=hdIn_opt (fun _=>⟨48,_,rfl,by rfl⟩) (hd4 g)
theorem hd2:hdIn H2 (T2 s):=hdIn_opt (fun _=>⟨35,_,rfl,by rfl⟩) (hd3 g)
theorem hd1:hdIn H1 (T1 s):=hdIn_opt (fun h=>⟨_,_,rfl,opt_byte g SG_ok g.ok.sg g.sg h⟩) (hd2 g)
theorem val_it {n:Nat} (h:n≤400) {T:List Nat} (hT:T=[]∨∃ c r,T=c::r∧dgN c=false):(((min (valN 0 (enc (twN (itN n++T)))) 401:Nat):Int),dwN (itN n++T))=((n:Int),T):=by
 obtain ⟨h1,h2⟩:=tw_app (itN_dg h) hT
 rw[h1,h2,enc_itN h,(itOk h).val,Nat.min_eq_left om]
theorem wd_T4:wd (T4 s)=(s.2.2.2.2.2.1,T5 s):=by
 have h5:=dig_of (by kernel_rfl) (hd5 g)
 have hw:=g.w
 unfold T4
 by_cases h:s.2.2.2.2.2.1>0
 ·rw[dtt h,show ∀ l,optN true l=l from fun _=>rfl,wd_eq]
  obtain ⟨c,r,e,hc⟩:=itN_head g (n:=s.2.2.2.2.2.1.toNat) om om
  rw[if_pos (by rw[e];exact hc),val_it g om h5]
  simp only[Prod.mk.injEq,and_true];omega
 ·rw[dff h,show ∀ l,optN false l++T5 s=T5 s from fun _=>rfl,wd_eq,hdC_of (by kernel_rfl) (hd5 g),if_neg ddc]
  simp only[Prod.mk.injEq,and_true];omega
theorem prc_T6:prc (tk PT (T6 s))=(s.2.2.2.2.2.2.2.1,s.2.2.2.2.2.2.2.2.1,T7 s):=by
 have h7:=dig_of (by kernel_rfl) (hd7 g)
 have hp:=g.p
 unfold T6
 cases hb:s.2.2.2.2.2.2.2.1
 ·rw[show ∀ l,optN false l++T7 s=T7 s from fun _=>rfl,tk_hd,hdC_of (by kernel_rfl) (hd7 g)]
  rw[show (if false=true then ((T7 s).headD 0,(T7 s).tail) else (0,T7 s))=(0,T7 s) from rfl]
  unfold prc
  rw[if_neg (by show ¬ ((((0:Nat):Int)!=0)=true);decide),g.pz hb]
 ·rw[show ∀ l,optN true (46::l)++T7 s=46::(l++T7 s) from fun _=>rfl,tk_hd,show ∀ r,hdC PT (46::r)=true from fun _=>rfl,if_pos rfl]
  unfold prc
  rw[if_pos (by rfl)]
  have hn:s.2.2.2.2.2.2.2.2.1.toNat≤400:=by omega
  obtain ⟨t1,t2⟩:=tw_app (itN_dg hn) h7
  have hbad:badP (itN s.2.2.2.2.2.2.2.2.1.toNat++T7 s)=false:=by
   have hne:itN s.2.2.2.2.2.2.2.2.1.toNat≠[]:=fun e=>(itOk hn).ne (by simpa [itN] using e)
   unfold badP
   rw[t1,dff hne,Bool.false_or]
   by_cases h0:s.2.2.2.2.2.2.2.2.1.toNat=0
   ·have:itN s.2.2.2.2.2.2.2.2.1.toNat=[48]:=by unfold itN;rw[(itOk hn).zero h0];rfl
    rw[this];rfl
   ·obtain ⟨c,r,e,hc⟩:=itN_head g hn h0
    rw[e,List.cons_append,List.headD_cons]
    rw[inNZ,ab,decide_eq_true_eq]at hc
    have:(c==48)=false:=beq_eq_false_iff_ne.2 om
    rw[this,Bool.and_false]
  show (true,(nb (itN s.2.2.2.2.2.2.2.2.1.toNat++T7 s)).1,(nb (itN s.2.2.2.2.2.2.2.2.1.toNat++T7 s)).2)=_
  rw[nb_of hbad,val_it g hn h7]
  simp only[Prod.mk.injEq,and_true,true_and];omega
theorem rdP_T0:rdP s.1 (T0 s)=(s,(0,0)):=by
 have e0:tk AL (T0 s)=(if (s.2.1 !=0)=true then s.2.1.toNat else 0,T1 s):=tk_opt (opt_byte g AL_ok g.ok.al g.al) (hdC_of (by kernel_rfl) (hd1 g))
 have e1:tk SG (T1 s)=(if (s.2.2.1 !=0)=true then s.2.2.1.toNat else 0,T2 s):=tk_opt (opt_byte g SG_ok g.ok.sg g.sg) (hdC_of (by kernel_rfl) (hd2 g))
 have e2:tk BA (T2 s)=(if s.2.2.2.1=true then 35 else 0,T3 s):=tk_opt (fun _=>by rfl) (hdC_of (by kernel_rfl) (hd3 g))
 have e3:tk ZE (T3 s)=(if s.2.2.2.2.1=true then 48 else 0,T4 s):=tk_opt (fun _=>by rfl) (hdC_of (by kernel_rfl) (hd4 g))
 have e5:tk GR (T5 s)=(if (s.2.2.2.2.2.2.1 !=0)=true then s.2.2.2.2.2.2.1.toNat else 0,T6 s):=tk_opt (opt_byte g GR_ok g.ok.gr g.gr) (hdC_of (by kernel_rfl) (hd6 g))
 have e7:tk TY (T7 s)=(if (s.2.2.2.2.2.2.2.2.2 !=0)=true then s.2.2.2.2.2.2.2.2.2.toNat else 0,[]):=by
  have:=tk_opt (T:=[]) (opt_byte g TY_ok g.ok.ty g.ty) rfl
  rw[List.append_nil]at this
  exact this
 unfold rdP
 simp only[e0,e1,e2,e3,wd_T4 g,e5,prc_T6 g,e7]
 have hw:=g.w
 have hp:=g.p
 rw[if_neg oss,if_neg om,opt_val g g.ok.al.1,opt_val g g.ok.sg.1,opt_val g g.ok.gr.1,opt_val g g.ok.ty.1]
 have b1:((((if s.2.2.2.1=true then 35 else 0:Nat)):Int)!=0)=s.2.2.2.1:=by cases s.2.2.2.1<;>rfl
 have b2:((((if s.2.2.2.2.1=true then 48 else 0:Nat)):Int)!=0)=s.2.2.2.2.1:=by cases s.2.2.2.2.1<;>rfl
 rw[b1,b2]
theorem mem_opt {b:Bool} {l:List Nat} {c:Nat} (h:c∈optN b l):b=true∧c∈l:=by
 cases b
 ·cases h
 ·exact ⟨rfl,h⟩
theorem T1_all:∀ c∈T1 s,inC AL c=false:=by
 have hd:∀ {c:Nat},dgN c=true→inC AL c=false:=fun {c} h=>by
  have:=dg_range h
  have h2:((List.range 128).all fun c=> !(decide (48≤c)&&decide (c≤57))|| !(inC AL c))=true:=by kernel_rfl
  have:=List.all_eq_true.1 h2 c (List.mem_range.2 om)
  rw[dtt om,dtt om]at this
  simpa using this
 intro c hc
 simp only[T1,T2,T3,T4,T5,T6,T7,List.mem_append]at hc
 rcases hc with hc | hc | hc | hc | hc | hc | hc
 ·obtain ⟨hb,hc⟩:=mem_opt g hc
  rw[List.mem_singleton.1 hc]
  exact disj_at (S:=AL) (H:=SG) (by kernel_rfl) (opt_byte g SG_ok g.ok.sg g.sg hb)
 ·obtain ⟨hb,hc⟩:=mem_opt g hc
  rw[List.mem_singleton.1 hc];rfl
 ·obtain ⟨hb,hc⟩:=mem_opt g hc
  rw[List.mem_singleton.1 hc];rfl
 ·obtain ⟨hb,hc⟩:=mem_opt g hc
  exact hd (itN_dg (by have:=g.w;omega) c hc)
 ·obtain ⟨hb,hc⟩:=mem_opt g hc
  rw[List.mem_singleton.1 hc]
  exact disj_at (S:=AL) (H:=GR) (by kernel_rfl) (opt_byte g GR_ok g.ok.gr g.gr hb)
 ·obtain ⟨hb,hc⟩:=mem_opt g hc
  rcases List.mem_cons.1 hc with rfl | hc
  ·rfl
  ·exact hd (itN_dg (by have:=g.p;omega) c hc)
 ·obtain ⟨hb,hc⟩:=mem_opt g hc
  rw[List.mem_singleton.1 hc]
  exact disj_at (S:=AL) (H:=TY) (by kernel_rfl) (opt_byte g TY_ok g.ok.ty g.ty hb)
theorem rd_wr:rd (wr s)=(s,(0,0)):=by
 unfold wr
 by_cases hne:s.1=0
 ·have h0:=hne
  rw[h0,show optN ((0:Int)!=0) [(0:Int).toNat]++T0 s=T0 s from rfl]
  have hr:=rdP_T0 g
  rw[h0]at hr
  have hT:=T1_all g
  rw[← hr]
  unfold T0 at*
  by_cases ha:s.2.1=0
  ·rw[ha,show ∀ l,optN ((0:Int)!=0) l++T1 s=T1 s from fun _=>rfl]at*
   cases hl:T1 s with
   | nil=>rfl
   | cons c t=>
     cases t with
     | nil=>rfl
     | cons d r=>
       rw[hl]at hT
       have:=hT d (by simp)
       simp only[rd,this,Bool.false_eq_true,if_false]
  ·have hb:(s.2.1 !=0)=true:=by simpa using ha
   rw[hb,show ∀ l,optN true [l]++T1 s=l::T1 s from fun _=>rfl]
   cases hl:T1 s with
   | nil=>rfl
   | cons d r=>
     rw[hl]at hT
     have:=hT d (by simp)
     simp only[rd,this,Bool.false_eq_true,if_false]
 ·obtain ⟨hs,h0,h1,h2,h3⟩:=g.fill.resolve_left hne
  have hb:(s.1 !=0)=true:=by simpa using hne
  rw[hb,show ∀ l,optN true [l]++T0 s=l::T0 s from fun _=>rfl]
  have hr:=rdP_T0 g
  have ha:(s.2.1 !=0)=true:=by simpa using h3
  have hal:=opt_byte g AL_ok g.ok.al g.al ha
  have e:T0 s=s.2.1.toNat::T1 s:=by unfold T0;rw[ha];rfl
  rw[e]at hr ⊢
  have hc:¬ (s.1.toNat=123∨s.1.toNat=125∨s.1.toNat=0):=by omega
  simp only[rd,hal,if_true,if_neg hc]
  rw[show ((s.1.toNat:Nat):Int)=s.1 by omega]
  exact hr
end
end Go.Gv.P
namespace Go.Gv.P
open List renaming takeWhile_cons→aa,mem_cons_self→ac,mem_cons_of_mem→ad
open Bool renaming and_eq_true→ab
open Go Go.Gv Go.Gv.D Go.Gv.R Go.Lib
set_option maxRecDepth 100000
section
variable {s:Sp} (g:Good s)
include g
theorem T0_low:∀ c∈T0 s,c<128:=by
 intro c hc
 simp only[T0,T1,T2,T3,T4,T5,T6,T7,List.mem_append]at hc
 rcases hc with hc | hc | hc | hc | hc | hc | hc | hc
 ·obtain ⟨hb,hc⟩:=mem_opt g hc
  rw[List.mem_singleton.1 hc]
  exact inC_lt (opt_byte g AL_ok g.ok.al g.al hb)
 ·obtain ⟨hb,hc⟩:=mem_opt g hc
  rw[List.mem_singleton.1 hc]
  exact inC_lt (opt_byte g SG_ok g.ok.sg g.sg hb)
 ·obtain ⟨hb,hc⟩:=mem_opt g hc
  rw[List.mem_singleton.1 hc];decide
 ·obtain ⟨hb,hc⟩:=mem_opt g hc
  rw[List.mem_singleton.1 hc];decide
 ·obtain ⟨hb,hc⟩:=mem_opt g hc
  have:=dg_range (itN_dg (by have:=g.w;omega) c hc);omega
 ·obtain ⟨hb,hc⟩:=mem_opt g hc
  rw[List.mem_singleton.1 hc]
  exact inC_lt (opt_byte g GR_ok g.ok.gr g.gr hb)
 ·obtain ⟨hb,hc⟩:=mem_opt g hc
  rcases List.mem_cons.1 hc with rfl | hc
  ·decide
  ·have:=dg_range (itN_dg (by have:=g.p;omega) c hc);omega
 ·obtain ⟨hb,hc⟩:=mem_opt g hc
  rw[List.mem_singleton.1 hc]
  exact inC_lt (opt_byte g TY_ok g.ok.ty g.ty hb)
theorem wr_scal:∀ c∈wr s,Scal c:=by
 intro c hc
 unfold wr at hc
 rcases List.mem_append.1 hc with hc | hc
 ·obtain ⟨hb,hc⟩:=mem_opt g hc
  rw[List.mem_singleton.1 hc]
  rcases g.fill with h | ⟨h,_⟩
  ·rw[h]at hb;cases hb
  ·exact h
 ·have:=T0_low g c hc
  unfold Scal;omega
theorem wr_len:(enc (wr s)).length≤40:=by
 have low:∀ {l:List Nat},(∀ c∈l,c<128)→(enc l).length=l.length:=by
  intro l
  induction l with
  | nil=>intro _;rfl
  | cons c r ih=>
    intro h
    rw[enc_cons,encR1 (by have:=h c (ac ..);omega),List.length_append,ih fun x hx=>h x (ad _ hx)]
    simp only[List.length_cons,List.length_nil];omega
 have hw:=itN_len (n:=s.2.2.2.2.2.1.toNat) (by have:=g.w;omega)
 have hp:=itN_len (n:=s.2.2.2.2.2.2.2.2.1.toNat) (by have:=g.p;omega)
 have l1:=len1 (b:=(s.1 !=0)) (x:=s.1.toNat)
 have l2:=len1 (b:=(s.2.1 !=0)) (x:=s.2.1.toNat)
 have l3:=len1 (b:=(s.2.2.1 !=0)) (x:=s.2.2.1.toNat)
 have l4:=len1 (b:=s.2.2.2.1) (x:=35)
 have l5:=len1 (b:=s.2.2.2.2.1) (x:=48)
 have l6:=optN_len (b:=decide (s.2.2.2.2.2.1>0)) (l:=itN s.2.2.2.2.2.1.toNat)
 have l7:=len1 (b:=(s.2.2.2.2.2.2.1 !=0)) (x:=s.2.2.2.2.2.2.1.toNat)
 have l8:=optN_len (b:=s.2.2.2.2.2.2.2.1) (l:=46::itN s.2.2.2.2.2.2.2.2.1.toNat)
 have l9:=len1 (b:=(s.2.2.2.2.2.2.2.2.2 !=0)) (x:=s.2.2.2.2.2.2.2.2.2.toNat)
 simp only[List.length_cons]at l8
 have h0:=low (T0_low g)
 have hl:(T0 s).length≤20:=by
  simp only[T0,T1,T2,T3,T4,T5,T6,T7,List.length_append];omega
 have h1:=enc_len_le (optN (s.1 !=0) [s.1.toNat])
 unfold wr
 rw[enc_app,List.length_append];omega
end
end Go.Gv.P
