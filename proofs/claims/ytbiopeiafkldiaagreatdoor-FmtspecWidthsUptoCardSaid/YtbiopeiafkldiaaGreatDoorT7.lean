import Derived.Test.YtbiopeiafkldiaaGreatDoorT5
set_option linter.all false
namespace Go.Gv.P
open Go Go.Gv Go.Gv.D Go.Gv.R Go.Lib
set_option maxRecDepth 100000
theorem encode_str {r:Nat} (h:Scal r):Utf8.encode (r:Int)=strOf (encR r):=by
 have hv:Utf8.valid (r:Int)=true:=by
  unfold Utf8.valid
  rcases h with h | ⟨h1,h2⟩
  ·rw[decide_eq_true (show (0:Int)≤(r:Int) by omega),decide_eq_true (show (r:Int)<0xD800 by omega)];rfl
  ·rw[decide_eq_true (show (0xE000:Int)≤(r:Int) by omega),decide_eq_true (show (r:Int)≤0x10FFFF by omega),Bool.and_true,Bool.or_true]
 have hs:r≤1114111:=by unfold Scal at h;omega
 unfold Utf8.encode
 simp only[hv,if_true,Int.toNat_natCast]
 by_cases h1:r<0x80
 ·rw[if_pos h1,encR1 (by omega)];rfl
 ·rw[if_neg h1]
  by_cases h2:r<0x800
  ·rw[if_pos h2,encR2 (by omega) (by omega)];rfl
  ·rw[if_neg h2]
   by_cases h3:r<0x10000
   ·rw[if_pos h3,encR3 (by omega) (by omega) h];rfl
   ·rw[if_neg h3,encR4 (by omega) hs];rfl
def itoaB (n:Nat):List UInt8:=Lib.itoa (n:Int)
theorem itoa_all:(List.range 401).all (fun n=>let l:=itoaB n;l.all dg&&((valN 0 l==n)&&((if n=0 then l==[48] else !(l.headD 48==48))&&(!l.isEmpty&&decide (l.length≤3)))))=true:=by kernel_rfl
theorem decimal_all (k:Nat):(List.range 401).all (fun n=>match ref4_decimal (k+60) (n:Int) with | some r=>bytesOf r==itoaB n | none=>false)=true:=by kernel_rfl
structure ItOk (n:Nat):Prop where
 dg:∀ b∈itoaB n,dg b=true
 val:valN 0 (itoaB n)=n
 zero:n=0→itoaB n=[48]
 head:n≠0→(itoaB n).headD 48≠48
 ne:itoaB n≠[]
 len:(itoaB n).length≤3
theorem itOk {n:Nat} (h:n≤400):ItOk n:=by
 have:=List.all_eq_true.1 itoa_all n (List.mem_range.2 (by omega))
 simp only[Bool.and_eq_true,beq_iff_eq,decide_eq_true_eq]at this
 obtain ⟨h1,h2,h3,h4,h5⟩:=this
 refine ⟨fun b hb=>List.all_eq_true.1 h1 b hb,h2,fun e=>?_,fun e=>?_,fun e=>(by rw[e]at h4;cases h4),h5⟩
 ·rw[if_pos e]at h3;exact eq_of_beq h3
 ·rw[if_neg e]at h3
  simpa using h3
theorem decimal_tot {x:Int} (h0:0≤x) (h1:x≤400):Tot (fun n=>ref4_decimal n x) (· =strOf (itoaB x.toNat)):=by
 obtain ⟨n,rfl⟩:∃ n:Nat,x=n:=⟨x.toNat,by omega⟩
 rw[Int.toNat_natCast]
 refine Tot.of_all 60 (fun k=>?_) rfl
 have:=List.all_eq_true.1 (decimal_all k) n (List.mem_range.2 (by omega))
 cases hr:ref4_decimal (k+60) (n:Int) with
 | none=>rw[hr]at this;cases this
 | some r=>
   rw[hr]at this
   have:=eq_of_beq this
   rw[← this,str_bytes]
def itN (n:Nat):List Nat:=(itoaB n).map (·.toNat)
theorem enc_bytes:∀ {l:List UInt8},(∀ b∈l,b.toNat<128)→enc (l.map (·.toNat))=l
 | [],_=>rfl
 | b::r,h=>by
   rw[List.map_cons,enc_cons,encR1 (by have:=h b (List.mem_cons_self ..);omega),enc_bytes fun x hx=>h x (List.mem_cons_of_mem _ hx),UInt8.ofNat_toNat];rfl
theorem dg_byte {b:UInt8} (h:dg b=true):48≤b.toNat∧b.toNat≤57:=by simpa [dg] using h
theorem enc_itN {n:Nat} (h:n≤400):enc (itN n)=itoaB n:=enc_bytes fun b hb=>by have:=dg_byte ((itOk h).dg b hb);omega
theorem itN_dg {n:Nat} (h:n≤400):∀ c∈itN n,dgN c=true:=fun c hc=>by
 obtain ⟨b,hb,rfl⟩:=List.mem_map.1 hc
 exact (itOk h).dg b hb
theorem itN_len {n:Nat} (h:n≤400):(itN n).length≤3:=by unfold itN;rw[List.length_map];exact (itOk h).len
def optN (b:Bool) (l:List Nat):List Nat:=if b then l else []
def T7 (s:Sp):List Nat:=optN (s.2.2.2.2.2.2.2.2.2 !=0) [s.2.2.2.2.2.2.2.2.2.toNat]
def T6 (s:Sp):List Nat:=optN s.2.2.2.2.2.2.2.1 (46::itN s.2.2.2.2.2.2.2.2.1.toNat)++T7 s
def T5 (s:Sp):List Nat:=optN (s.2.2.2.2.2.2.1 !=0) [s.2.2.2.2.2.2.1.toNat]++T6 s
def T4 (s:Sp):List Nat:=optN (decide (s.2.2.2.2.2.1>0)) (itN s.2.2.2.2.2.1.toNat)++T5 s
def T3 (s:Sp):List Nat:=optN s.2.2.2.2.1 [48]++T4 s
def T2 (s:Sp):List Nat:=optN s.2.2.2.1 [35]++T3 s
def T1 (s:Sp):List Nat:=optN (s.2.2.1 !=0) [s.2.2.1.toNat]++T2 s
def T0 (s:Sp):List Nat:=optN (s.2.1 !=0) [s.2.1.toNat]++T1 s
/-- how a specification is written -/
def wr (s:Sp):List Nat:=optN (s.1 !=0) [s.1.toNat]++T0 s
structure Good (s:Sp):Prop where
 ok:SpOk s
 fill:s.1=0∨(Scal s.1.toNat∧0≤s.1∧s.1≠123∧s.1≠125∧s.2.1≠0)
 al:s.2.1=0∨inB AL s.2.1=true
 sg:s.2.2.1=0∨inB SG s.2.2.1=true
 gr:s.2.2.2.2.2.2.1=0∨inB GR s.2.2.2.2.2.2.1=true
 ty:s.2.2.2.2.2.2.2.2.2=0∨inB TY s.2.2.2.2.2.2.2.2.2=true
 w:0≤s.2.2.2.2.2.1∧s.2.2.2.2.2.1≤400
 p:0≤s.2.2.2.2.2.2.2.2.1∧s.2.2.2.2.2.2.2.2.1≤400
 pz:s.2.2.2.2.2.2.2.1=false→s.2.2.2.2.2.2.2.2.1=0
theorem good_of {s:Sp} (hs:SpOk s) (hb:badS s=false) (ho:outS s=false):Good s:=by
 have ho:=of_decide_eq_false ho
 unfold badS at hb
 simp only[Bool.or_eq_false_iff,Bool.and_eq_false_iff,Bool.not_eq_false',offS,bne_eq_false_iff_eq,beq_eq_false_iff_ne,Bool.not_eq_true']at hb
 obtain ⟨⟨⟨⟨h1,h2,h3⟩,h4⟩,h5,h6⟩,h7,h8,h9⟩:=hb
 refine ⟨hs,?_,h5,h6,h7,h8,by omega,by omega,fun e=>h9.elim (fun h9=>by rw[e]at h9;cases h9) id⟩
 by_cases h0:s.1=0
 ·exact .inl h0
 ·have h1:=of_decide_eq_true h1
  refine .inr ⟨by unfold Scal;omega,by omega,h2,h3,?_⟩
  rcases h4 with h4 | h4
  ·exact absurd h4 h0
  ·exact h4
theorem inB_nat {S:List UInt8} (hS:SetOk S) {x:Int} (hx:0≤x∧x<256) (h:inB S x=true):inC S x.toNat=true∧0<x∧x<128:=by
 have hl:=hS.low _ h
 have hc:=byte_cast hx
 have h2:x<128:=by omega
 refine ⟨?_,by omega,h2⟩
 unfold inC
 rw[decide_eq_true (by omega),Bool.true_and]
 exact h
theorem len1 {b:Bool} {x:Nat}:(optN b [x]).length≤1:=by cases b<;>simp[optN]
theorem optN_len {b:Bool} {l:List Nat}:(optN b l).length≤l.length:=by cases b<;>simp[optN]
end Go.Gv.P
namespace Go.Gv.P
open Go Go.Gv Go.Gv.D Go.Gv.R Go.Lib
set_option maxRecDepth 100000
theorem u8_cast {x:Int} (h:0≤x∧x<256):u8 x=some (UInt8.ofNat x.toNat):=by
 have:=u8_ok (n:=x.toNat) (by omega)
 rwa [show ((x.toNat:Nat):Int)=x by omega]at this
theorem cat_enc {acc l:List Nat} (h:acc.length+l.length≤1000):cat (strOf (enc acc)) (strOf (enc l))=some (strOf (enc (acc++l))):=by
 have h1:=enc_len_le acc
 have h2:=enc_len_le l
 rw[cat_str (by omega),enc_app]
theorem byte_enc {S:List UInt8} (hS:SetOk S) {x:Int} (hx:0≤x∧x<256) (h:inB S x=true):[UInt8.ofNat x.toNat]=enc [x.toNat]:=by
 obtain ⟨_,h1,h2⟩:=inB_nat hS hx h
 rw[enc_cons,encR1 (by omega)];rfl
theorem ofNat_ne {x:Int} (hx:0≤x∧x<256):((((UInt8.ofNat x.toNat).toNat:Nat):Int)!=0)=(x !=0):=by rw[← byte_cast hx]
theorem cat_step {c:Bool} {acc l:List Nat} {t:ByteArray} (h:c=true→t=strOf (enc l)) (hl:acc.length+l.length≤1000):Tot (fun _:Nat=>if c=true then (cat (strOf (enc acc)) t).bind some else some (strOf (enc acc))) (· =strOf (enc (acc++optN c l))):=by
 cases c
 ·exact Tot.if_ rfl (Tot.ret (by rw[show optN false l=[] from rfl,List.append_nil]))
 ·rw[h rfl]
  exact Tot.it rfl (Tot.bind0 (cat_enc hl) (Tot.ret rfl))
theorem SpecText_tot {s:Sp} (g:Good s):Tot (fun n=>ref4_SpecText n s) (· =strOf (enc (wr s))):=by
 unfold ref4_SpecText
 have hw:=itN_len (n:=s.2.2.2.2.2.1.toNat) (by have:=g.w;omega)
 have hp:=itN_len (n:=s.2.2.2.2.2.2.2.2.1.toNat) (by have:=g.p;omega)
 have l1:=len1 (b:=(s.1 !=0)) (x:=s.1.toNat)
 have l2:=len1 (b:=(s.2.1 !=0)) (x:=s.2.1.toNat)
 have l3:=len1 (b:=(s.2.2.1 !=0)) (x:=s.2.2.1.toNat)
 have l4:=len1 (b:=s.2.2.2.1) (x:=35)
 have l5:=len1 (b:=s.2.2.2.2.1) (x:=48)
 have l6:=optN_len (b:=decide (s.2.2.2.2.2.1>0)) (l:=itN s.2.2.2.2.2.1.toNat)
 have l7:=len1 (b:=(s.2.2.2.2.2.2.1 !=0)) (x:=s.2.2.2.2.2.2.1.toNat)
 have l8:=optN_len (b:=s.2.2.2.2.2.2.2.1) (l:=46::itN s.2.2.2.2.2.2.2.2.1.toNat)
 have l8':(optN s.2.2.2.2.2.2.2.1 (46::itN s.2.2.2.2.2.2.2.2.1.toNat)).length≤4:=by simp only[List.length_cons]at l8;omega
 refine Tot.bindq (P:=(· =strOf (enc (optN (s.1 !=0) [s.1.toNat])))) ?_ fun j hj=>?_
 ·refine Tot.ite (fun h=>?_) (fun h=>Tot.ret (by rw[h];rfl))
  rw[h]
  rcases g.fill with h0 | ⟨h1,h0,_⟩
  ·rw[h0]at h;cases h
  ·have:=String_tot (p:=[s.1.toNat]) (fun r hr=>by rw[List.mem_singleton.1 hr];exact h1) (by simp)
   rw[show ints [s.1.toNat]=[s.1] by simp[ints,Int.toNat_of_nonneg h0]]at this
   exact Tot.bindq this fun r hr=>Tot.ret hr
 subst hj
 obtain ⟨F0,hF⟩:∃ F0,F0=optN (s.1 !=0) [s.1.toNat]:=⟨_,rfl⟩
 rw[← hF]at l1 ⊢
 refine Tot.bind0 (u8_cast g.ok.al) (Tot.bind0 (u8_cast g.ok.sg) ?_)
 refine Tot.bindq (P:=(· =strOf (enc (F0++optN (s.2.1 !=0) [s.2.1.toNat]++optN (s.2.2.1 !=0) [s.2.2.1.toNat])))) ?_ fun j hj=>?_
 ·refine Tot.loop (fun st:ByteArray × Int=>st=(strOf (enc F0),0)∨st=(strOf (enc (F0++optN (s.2.1 !=0) [s.2.1.toNat])),1)∨st=(strOf (enc (F0++optN (s.2.1 !=0) [s.2.1.toNat]++optN (s.2.2.1 !=0) [s.2.2.1.toNat])),2)) (fun st=>2-st.2.toNat) (.inl rfl) fun st hst=>?_
  rcases hst with rfl | rfl | rfl
  ·refine Tot.it rfl (Tot.bind0 (idx_nat (i:=0) (by simp)) ?_)
   refine Tot.bindq (P:=(· =strOf (enc (F0++optN (s.2.1 !=0) [s.2.1.toNat])))) ?_ fun x hx=>Tot.ret (by subst hx;exact ⟨.inr (.inl rfl),show 2-(IntKind.i64.wrap ((0:Int)+1)).toNat<2-((0:Int)).toNat by decide⟩)
   show Tot (fun n=>if ((((UInt8.ofNat s.2.1.toNat).toNat:Nat):Int)!=0)=true then _ else _) _
   rw[ofNat_ne g.ok.al]
   refine Tot.ite (fun h=>?_) (fun h=>Tot.ret (by rw[h,show optN false [s.2.1.toNat]=[] from rfl,List.append_nil]))
   refine Tot.bind0 (idx_nat (i:=0) (by simp)) ?_
   rw[h]
   rcases g.al with h0 | h0
   ·rw[h0]at h;cases h
   ·show Tot (fun n=>(cat (strOf (enc F0)) (strOf [UInt8.ofNat s.2.1.toNat])).bind _) _
    rw[byte_enc AL_ok g.ok.al h0]
    exact Tot.bind0 (cat_enc (by simp only[List.length_singleton];omega)) (Tot.ret rfl)
  ·refine Tot.it rfl (Tot.bind0 (idx_nat (i:=1) (by simp)) ?_)
   refine Tot.bindq (P:=(· =strOf (enc (F0++optN (s.2.1 !=0) [s.2.1.toNat]++optN (s.2.2.1 !=0) [s.2.2.1.toNat])))) ?_ fun x hx=>Tot.ret (by subst hx;exact ⟨.inr (.inr rfl),show 2-(IntKind.i64.wrap ((1:Int)+1)).toNat<2-((1:Int)).toNat by decide⟩)
   show Tot (fun n=>if ((((UInt8.ofNat s.2.2.1.toNat).toNat:Nat):Int)!=0)=true then _ else _) _
   rw[ofNat_ne g.ok.sg]
   refine Tot.ite (fun h=>?_) (fun h=>Tot.ret (by rw[h,show optN false [s.2.2.1.toNat]=[] from rfl,List.append_nil]))
   refine Tot.bind0 (idx_nat (i:=1) (by simp)) ?_
   rw[h]
   rcases g.sg with h0 | h0
   ·rw[h0]at h;cases h
   ·show Tot (fun n=>(cat (strOf (enc (F0++optN (s.2.1 !=0) [s.2.1.toNat]))) (strOf [UInt8.ofNat s.2.2.1.toNat])).bind _) _
    rw[byte_enc SG_ok g.ok.sg h0]
    exact Tot.bind0 (cat_enc (by simp only[List.length_singleton,List.length_append];omega)) (Tot.ret rfl)
  ·exact Tot.if_ rfl (Tot.ret rfl)
 subst hj
 refine Tot.bindq (cat_step (l:=[35]) (fun _=>rfl) (by simp only[List.length_singleton,List.length_append];omega)) fun j hj=>?_
 subst hj
 refine Tot.bindq (cat_step (l:=[48]) (fun _=>rfl) (by simp only[List.length_singleton,List.length_append];omega)) fun j hj=>?_
 subst hj
 refine Tot.bindq (P:=(· =strOf (enc (F0++optN (s.2.1 !=0) [s.2.1.toNat]++optN (s.2.2.1 !=0) [s.2.2.1.toNat]++optN s.2.2.2.1 [35]++optN s.2.2.2.2.1 [48]++optN (decide (s.2.2.2.2.2.1>0)) (itN s.2.2.2.2.2.1.toNat))))) ?_ fun j hj=>?_
 ·refine Tot.ite (fun h=>?_) (fun h=>Tot.ret (by rw[h,show ∀ l,optN false l=[] from fun _=>rfl,List.append_nil]))
  refine Tot.bindq (decimal_tot g.w.1 g.w.2) fun r hr=>?_
  subst hr
  rw[← enc_itN (by have:=g.w;omega),h]
  exact Tot.bind0 (cat_enc (by simp only[List.length_append];omega)) (Tot.ret rfl)
 subst hj
 refine Tot.bindq (P:=(· =strOf (enc (F0++optN (s.2.1 !=0) [s.2.1.toNat]++optN (s.2.2.1 !=0) [s.2.2.1.toNat]++optN s.2.2.2.1 [35]++optN s.2.2.2.2.1 [48]++optN (decide (s.2.2.2.2.2.1>0)) (itN s.2.2.2.2.2.1.toNat)++optN (s.2.2.2.2.2.2.1 !=0) [s.2.2.2.2.2.2.1.toNat])))) ?_ fun j hj=>?_
 ·refine Tot.ite (fun h=>?_) (fun h=>Tot.ret (by rw[h,show ∀ l,optN false l=[] from fun _=>rfl,List.append_nil]))
  refine Tot.bind0 (u8_cast g.ok.gr) ?_
  rw[h]
  rcases g.gr with h0 | h0
  ·rw[h0]at h;cases h
  ·rw[byte_enc GR_ok g.ok.gr h0]
   exact Tot.bind0 (cat_enc (by simp only[List.length_append,List.length_singleton];omega)) (Tot.ret rfl)
 subst hj
 refine Tot.bindq (P:=(· =strOf (enc (F0++optN (s.2.1 !=0) [s.2.1.toNat]++optN (s.2.2.1 !=0) [s.2.2.1.toNat]++optN s.2.2.2.1 [35]++optN s.2.2.2.2.1 [48]++optN (decide (s.2.2.2.2.2.1>0)) (itN s.2.2.2.2.2.1.toNat)++optN (s.2.2.2.2.2.2.1 !=0) [s.2.2.2.2.2.2.1.toNat]++optN s.2.2.2.2.2.2.2.1 (46::itN s.2.2.2.2.2.2.2.2.1.toNat))))) ?_ fun j hj=>?_
 ·refine Tot.ite (fun h=>?_) (fun h=>Tot.ret (by rw[h,show ∀ l,optN false l=[] from fun _=>rfl,List.append_nil]))
  refine Tot.bindq (decimal_tot g.p.1 g.p.2) fun r hr=>?_
  subst hr
  rw[← enc_itN (by have:=g.p;omega),h]
  have e:strOf [46]=strOf (enc [46]):=rfl
  rw[e]
  refine Tot.bind0 (cat_enc (by simp only[List.length_singleton];omega)) ?_
  exact Tot.bind0 (cat_enc (by simp only[List.length_append,List.length_singleton];omega)) (Tot.ret rfl)
 subst hj
 refine Tot.bindq (P:=(· =strOf (enc (F0++optN (s.2.1 !=0) [s.2.1.toNat]++optN (s.2.2.1 !=0) [s.2.2.1.toNat]++optN s.2.2.2.1 [35]++optN s.2.2.2.2.1 [48]++optN (decide (s.2.2.2.2.2.1>0)) (itN s.2.2.2.2.2.1.toNat)++optN (s.2.2.2.2.2.2.1 !=0) [s.2.2.2.2.2.2.1.toNat]++optN s.2.2.2.2.2.2.2.1 (46::itN s.2.2.2.2.2.2.2.2.1.toNat)++optN (s.2.2.2.2.2.2.2.2.2 !=0) [s.2.2.2.2.2.2.2.2.2.toNat])))) ?_ fun j hj=>Tot.ret ?_
 ·refine Tot.ite (fun h=>?_) (fun h=>Tot.ret (by rw[h,show ∀ l,optN false l=[] from fun _=>rfl,List.append_nil]))
  refine Tot.bind0 (u8_cast g.ok.ty) ?_
  rw[h]
  rcases g.ty with h0 | h0
  ·rw[h0]at h;cases h
  ·rw[byte_enc TY_ok g.ok.ty h0]
   exact Tot.bind0 (cat_enc (by simp only[List.length_append,List.length_singleton];omega)) (Tot.ret rfl)
 rw[hj,hF]
 simp only[wr,T0,T1,T2,T3,T4,T5,T6,T7,List.append_assoc]
end Go.Gv.P
