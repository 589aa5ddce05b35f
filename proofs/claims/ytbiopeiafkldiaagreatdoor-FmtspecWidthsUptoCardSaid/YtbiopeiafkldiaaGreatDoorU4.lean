import Derived.Test.YtbiopeiafkldiaaGreatDoorU1
set_option linter.all false
namespace Go.Gv.R
open Go Go.Gv Go.Gv.D Go.Lib
/-! ### the reference's unit -/
def bad (x:Nat × Nat):Prop:=x.1=65533∧x.2=1
instance (x:Nat × Nat):Decidable (bad x):=inferInstanceAs (Decidable (_∧_))
def U (l:List UInt8):Int × Int:=if bad (decodeL l) then (0,0) else (((decodeL l).1:Int),((decodeL l).2:Int))
theorem behind_tot {s:List UInt8} {i:Nat} (hs:s.length≤1152921504606846976):Tot (fun fuel=>ref4_behind fuel s (i:Int)) (fun r=>((i<s.length∧(s.getD i 0).toNat/64=2)∧r=(((s.getD i 0).toNat%64:Nat):Int))∨(¬ (i<s.length∧(s.getD i 0).toNat/64=2)∧r= -1)):=by
 unfold ref4_behind
 have hb:=byte_lt (s.getD i 0)
 refine Tot.bindq (P:=fun r=>r=decide (i<s.length∧(s.getD i 0).toNat/64=2)) ?_ fun r hr=>?_
 ·refine Tot.ite (fun h=>?_) (fun h=>?_)
  ·have h:i<s.length:=by have:((i:Nat):Int)<(s.length:Int):=of_decide_eq_true h;omega
   refine Tot.bind0 (getD_idx h) (Tot.ite (fun h2=>?_) (fun h2=>?_))
   ·have h2:128≤(s.getD i 0).toNat:=by have:((s.getD i 0).toNat:Int)≥128:=of_decide_eq_true h2;omega
    refine Tot.bind0 (getD_idx h) (Tot.ret (decide_eq_decide.2 ⟨fun g=>⟨h,by omega⟩,fun g=>by have:=g.2;omega⟩))
   ·have h2:¬ 128≤(s.getD i 0).toNat:=by have:¬ ((s.getD i 0).toNat:Int)≥128:=of_decide_eq_false h2;omega
    exact Tot.ret (decide_eq_false (by omega)).symm
  ·have h:¬ i<s.length:=by have:¬ ((i:Nat):Int)<(s.length:Int):=of_decide_eq_false h;omega
   exact Tot.ret (decide_eq_false (by omega)).symm
 ·subst hr
  refine Tot.ite (fun h=>?_) (fun h=>?_)
  ·have h:=of_decide_eq_true h
   refine Tot.bind0 (getD_idx h.1) (Tot.some_bind (Tot.ret (.inl ⟨h,?_⟩)))
   rw[i64_small (x:=((s.getD i 0).toNat:Int)) (by omega) (by omega),i64_small (by omega) (by omega)]
   omega
  ·exact Tot.ret (.inr ⟨of_decide_eq_false h,rfl⟩)
theorem drop_getD (s:List UInt8) (i k:Nat):(s.drop i).getD k 0=s.getD (i+k) 0:=by
 rw[List.getD_eq_getElem?_getD,List.getD_eq_getElem?_getD,List.getElem?_drop]
theorem unit_tot {s:List UInt8} {i:Nat} (hi:i<s.length) (hs:s.length≤1152921504606846976):Tot (fun fuel=>ref4_unit fuel s (i:Int)) (fun r=>r=U (s.drop i)):=by
 unfold ref4_unit
 have w1:IntKind.i64.wrap ((i:Int)+1)=((i+1:Nat):Int):=by rw[i64_small (by omega) (by omega)];omega
 have w2:IntKind.i64.wrap ((i:Int)+2)=((i+2:Nat):Int):=by rw[i64_small (by omega) (by omega)];omega
 have w3:IntKind.i64.wrap ((i:Int)+3)=((i+3:Nat):Int):=by rw[i64_small (by omega) (by omega)];omega
 rw[w1,w2,w3]
 unfold U
 rw[decodeL_N,drop_getD,drop_getD,drop_getD,drop_getD,List.length_drop,Nat.add_zero]
 have b0:=byte_lt (s.getD i 0)
 have b1:=byte_lt (s.getD (i+1) 0)
 have b2:=byte_lt (s.getD (i+2) 0)
 have b3:=byte_lt (s.getD (i+3) 0)
 refine Tot.bind0 (getD_idx hi) (Tot.bindq (behind_tot hs) fun r1 h1=>Tot.bindq (behind_tot hs) fun r2 h2=>Tot.bindq (behind_tot hs) fun r3 h3=>?_)
 rw[i64_small (x:=((s.getD i 0).toNat:Int)) (by omega) (by omega)]
 have e1:(i+1<s.length)=(1<s.length-i):=propext ⟨fun h=>by omega,fun h=>by omega⟩
 have e2:(i+2<s.length)=(2<s.length-i):=propext ⟨fun h=>by omega,fun h=>by omega⟩
 have e3:(i+3<s.length)=(3<s.length-i):=propext ⟨fun h=>by omega,fun h=>by omega⟩
 rw[e1]at h1
 rw[e2]at h2
 rw[e3]at h3
 generalize (s.getD i 0).toNat=x0 at*
 generalize (s.getD (i+1) 0).toNat=x1 at*
 generalize (s.getD (i+2) 0).toNat=x2 at*
 generalize (s.getD (i+3) 0).toNat=x3 at*
 have hn:0<s.length-i:=by omega
 generalize s.length-i=n at*
 clear e1 e2 e3 w1 w2 w3 hi hs
 have hr1:r1≥0↔(1<n∧x1/64=2):=by rcases h1 with ⟨a,b⟩ | ⟨a,b⟩<;>constructor<;>intro h<;>first | exact a | omega
 have hr2:r2≥0↔(2<n∧x2/64=2):=by rcases h2 with ⟨a,b⟩ | ⟨a,b⟩<;>constructor<;>intro h<;>first | exact a | omega
 have hr3:r3≥0↔(3<n∧x3/64=2):=by rcases h3 with ⟨a,b⟩ | ⟨a,b⟩<;>constructor<;>intro h<;>first | exact a | omega
 have v1:r1≥0→r1=((x1%64:Nat):Int):=fun h=>by rcases h1 with ⟨a,b⟩ | ⟨a,b⟩<;>omega
 have v2:r2≥0→r2=((x2%64:Nat):Int):=fun h=>by rcases h2 with ⟨a,b⟩ | ⟨a,b⟩<;>omega
 have v3:r3≥0→r3=((x3%64:Nat):Int):=fun h=>by rcases h3 with ⟨a,b⟩ | ⟨a,b⟩<;>omega
 clear h1 h2 h3
 have nb:∀ {v k:Nat},2≤k→¬ bad (v,k):=fun h ⟨_,h'⟩=>by dsimp only at h';omega
 refine Tot.some_bind (Tot.ite (fun g=>?_) (fun g=>?_))
 ·have g:x0<128:=by have:(x0:Int)<128:=of_decide_eq_true g;omega
  refine Tot.ret ?_
  have hd:decodeN n x0 x1 x2 x3=(x0,1):=by
   unfold decodeN
   rw[if_pos g]
  rw[hd,if_neg (fun h=>by have:=h.1;dsimp only at this;omega)];rfl
 have g:¬ x0<128:=by have:¬ (x0:Int)<128:=of_decide_eq_false g;omega
 refine Tot.ite (fun q=>?_) (fun q=>?_)
 ·simp only[Bool.and_eq_true,decide_eq_true_eq]at q
  obtain ⟨q1,q2,q3⟩:=q
  have a1:=hr1.1 q3
  rw[v1 q3]
  refine Tot.some_bind (Tot.ret ?_)
  have hd:decodeN n x0 x1 x2 x3=(x0%32*64+x1%64,2):=by
   unfold decodeN
   rw[if_neg g,if_pos ⟨by omega,a1⟩,if_pos (by omega)]
  rw[hd,if_neg (nb (by omega))]
  rw[i64_small (x:=(x0:Int)-192) (by omega) (by omega),i64_small (x:=((x0:Int)-192)*64) (by omega) (by omega),i64_small (by omega) (by omega)]
  refine Prod.ext ?_ rfl
  show ((x0:Int)-192)*64+((x1%64:Nat):Int)=((x0%32*64+x1%64:Nat):Int)
  omega
 have q:¬ (x0≥194∧x0<224∧r1≥0):=fun ⟨h,h',h''⟩=>by
  rw[decide_eq_true (by omega:(x0:Int)≥194),decide_eq_true (by omega:(x0:Int)<224),decide_eq_true h'']at q;cases q
 refine Tot.bindq (P:=fun r=>(r= .inr (((decodeN n x0 x1 x2 x3).1:Int),((decodeN n x0 x1 x2 x3).2:Int))∧¬ bad (decodeN n x0 x1 x2 x3))∨(r= .inl ()∧bad (decodeN n x0 x1 x2 x3))) ?_ fun r hr=>?_
 ·refine Tot.ite (fun p=>?_) (fun p=>?_)
  ·simp only[Bool.and_eq_true,decide_eq_true_eq]at p
   obtain ⟨p1,p2,p3,p4⟩:=p
   have a1:=hr1.1 p3
   have a2:=hr2.1 p4
   rw[v1 p3,v2 p4]
   have hv:IntKind.i64.wrap (IntKind.i64.wrap (IntKind.i64.wrap (IntKind.i64.wrap ((x0:Int)-224)*4096)+IntKind.i64.wrap (((x1%64:Nat):Int)*64))+((x2%64:Nat):Int))=((x0%16*4096+x1%64*64+x2%64:Nat):Int):=by
    rw[i64_small (x:=(x0:Int)-224) (by omega) (by omega),i64_small (x:=((x0:Int)-224)*4096) (by omega) (by omega),i64_small (x:=((x1%64:Nat):Int)*64) (by omega) (by omega),i64_small (x:=((x0:Int)-224)*4096+((x1%64:Nat):Int)*64) (by omega) (by omega),i64_small (by omega) (by omega)]
    omega
   rw[hv]
   refine Tot.some_bind (Tot.ite (fun w=>?_) (fun w=>?_))
   ·simp only[Bool.and_eq_true,Bool.or_eq_true,decide_eq_true_eq]at w
    have hd:decodeN n x0 x1 x2 x3=(x0%16*4096+x1%64*64+x2%64,3):=by
     unfold decodeN
     rw[if_neg g,if_neg (by omega),if_pos ⟨by omega,a1,a2⟩,if_pos ⟨by omega,by omega⟩]
    rw[hd]
    exact Tot.ret (.inl ⟨rfl,nb (by omega)⟩)
   ·have w:¬ (x0%16*4096+x1%64*64+x2%64≥2048∧(x0%16*4096+x1%64*64+x2%64<55296∨x0%16*4096+x1%64*64+x2%64>57343)):=fun ⟨h,h'⟩=>by
     have:(decide (((x0%16*4096+x1%64*64+x2%64:Nat):Int)≥2048)&&(decide (((x0%16*4096+x1%64*64+x2%64:Nat):Int)<55296)||decide (((x0%16*4096+x1%64*64+x2%64:Nat):Int)>57343)))=true:=by
      simp only[Bool.and_eq_true,Bool.or_eq_true,decide_eq_true_eq];omega
     rw[this]at w;cases w
    have hd:decodeN n x0 x1 x2 x3=(65533,1):=by
     unfold decodeN
     rw[if_neg g,if_neg (by omega),if_pos ⟨by omega,a1,a2⟩,if_neg (by omega)]
    rw[hd]
    exact Tot.ret (.inr ⟨rfl,rfl,rfl⟩)
  ·have p:¬ (x0≥224∧x0<240∧r1≥0∧r2≥0):=fun ⟨h,h',h'',h3⟩=>by
    rw[decide_eq_true (by omega:(x0:Int)≥224),decide_eq_true (by omega:(x0:Int)<240),decide_eq_true h'',decide_eq_true h3]at p;cases p
   refine Tot.ite (fun o=>?_) (fun o=>?_)
   ·simp only[Bool.and_eq_true,decide_eq_true_eq]at o
    obtain ⟨p1,p2,p3,p4,p5⟩:=o
    have a1:=hr1.1 p3
    have a2:=hr2.1 p4
    have a3:=hr3.1 p5
    rw[v1 p3,v2 p4,v3 p5]
    have hv:IntKind.i64.wrap (IntKind.i64.wrap (IntKind.i64.wrap (IntKind.i64.wrap (IntKind.i64.wrap ((x0:Int)-240)*262144)+IntKind.i64.wrap (((x1%64:Nat):Int)*4096))+IntKind.i64.wrap (((x2%64:Nat):Int)*64))+((x3%64:Nat):Int))=((x0%8*262144+x1%64*4096+x2%64*64+x3%64:Nat):Int):=by
     rw[i64_small (x:=(x0:Int)-240) (by omega) (by omega),i64_small (x:=((x0:Int)-240)*262144) (by omega) (by omega),i64_small (x:=((x1%64:Nat):Int)*4096) (by omega) (by omega),i64_small (x:=((x2%64:Nat):Int)*64) (by omega) (by omega),i64_small (x:=((x0:Int)-240)*262144+((x1%64:Nat):Int)*4096) (by omega) (by omega),i64_small (x:=((x0:Int)-240)*262144+((x1%64:Nat):Int)*4096+((x2%64:Nat):Int)*64) (by omega) (by omega),i64_small (by omega) (by omega)]
     omega
    rw[hv]
    refine Tot.some_bind (Tot.ite (fun w=>?_) (fun w=>?_))
    ·simp only[Bool.and_eq_true,decide_eq_true_eq]at w
     have hd:decodeN n x0 x1 x2 x3=(x0%8*262144+x1%64*4096+x2%64*64+x3%64,4):=by
      unfold decodeN
      rw[if_neg g,if_neg (by omega),if_neg (by omega),if_pos ⟨by omega,a1,a2,a3⟩,if_pos ⟨by omega,by omega⟩]
     rw[hd]
     exact Tot.ret (.inl ⟨rfl,nb (by omega)⟩)
    ·have w:¬ (x0%8*262144+x1%64*4096+x2%64*64+x3%64≥65536∧x0%8*262144+x1%64*4096+x2%64*64+x3%64≤1114111):=fun ⟨h,h'⟩=>by
      rw[decide_eq_true (by omega:((x0%8*262144+x1%64*4096+x2%64*64+x3%64:Nat):Int)≥65536),decide_eq_true (by omega:((x0%8*262144+x1%64*4096+x2%64*64+x3%64:Nat):Int)≤1114111)]at w;cases w
     have hd:decodeN n x0 x1 x2 x3=(65533,1):=by
      unfold decodeN
      rw[if_neg g,if_neg (by omega),if_neg (by omega),if_pos ⟨by omega,a1,a2,a3⟩,if_neg (by omega)]
     rw[hd]
     exact Tot.ret (.inr ⟨rfl,rfl,rfl⟩)
   ·have o:¬ (x0≥240∧x0<245∧r1≥0∧r2≥0∧r3≥0):=fun ⟨h,h',h'',h3,h4⟩=>by
     rw[decide_eq_true (by omega:(x0:Int)≥240),decide_eq_true (by omega:(x0:Int)<245),decide_eq_true h'',decide_eq_true h3,decide_eq_true h4]at o;cases o
    have hd:decodeN n x0 x1 x2 x3=(65533,1):=by
     rw[hr1]at q
     rw[hr1,hr2]at p
     rw[hr1,hr2,hr3]at o
     unfold decodeN
     repeat' split
     all_goals first | rfl | (exfalso;omega)
    rw[hd]
    exact Tot.ret (.inr ⟨rfl,rfl,rfl⟩)
 ·rcases hr with ⟨e,h⟩ | ⟨e,h⟩
  ·subst e
   rw[if_neg h]
   exact Tot.contr rfl
  ·subst e
   rw[if_pos h]
   exact Tot.contl (Tot.ret rfl)
end Go.Gv.R
namespace Go.Gv.R
open Go Go.Gv Go.Gv.D Go.Lib
theorem enc_inj:∀ {p q:List Nat},(∀ r∈p,Scal r)→(∀ r∈q,Scal r)→enc p=enc q→p=q
 | [],[],_,_,_=>rfl
 | [],r::q,_,_,e=>absurd e.symm enc_ne
 | r::p,[],_,_,e=>absurd e enc_ne
 | r::p,r'::q,hp,hq,e=>by
   have h1:=decode_enc r (hp r (by simp)) (enc p)
   have h2:=decode_enc r' (hq r' (by simp)) (enc q)
   rw[← enc_cons]at h1 h2
   rw[e,h2]at h1
   have e1:=(Prod.mk.inj h1).1
   subst e1
   rw[enc_cons,enc_cons]at e
   rw[enc_inj (fun x hx=>hp x (by simp[hx])) (fun x hx=>hq x (by simp[hx])) (List.append_cancel_left e)]
theorem enc_len_ge (p:List Nat):p.length≤(enc p).length:=by
 induction p with
 | nil=>simp
 | cons r p ih=>
   have:=encR_pos r
   rw[enc_cons,List.length_append,List.length_cons];omega
theorem Points_tot {s_0:ByteArray} (hs:s_0.size≤1048576):Tot (fun fuel=>ref4_Points fuel s_0) (fun r=>(validD (bytesOf s_0)=false∧r=([],false))∨∃ p,(∀ r∈p,Scal r)∧bytesOf s_0=enc p∧r=(ints p,true)):=by
 unfold ref4_Points
 have hsz:=size_bytes s_0
 rw[hsz]at hs ⊢
 generalize bytesOf s_0=L at hs ⊢
 refine Tot.bindq (P:=fun r=>(validD L=false∧r= .inr ([],false))∨∃ p,(∀ r∈p,Scal r)∧L=enc p∧r= .inl (ints p)) ?_ fun r hr=>?_
 ·refine Tot.loop (fun st=>∃ p t,(∀ r∈p,Scal r)∧L=enc p++t∧validD t=validD L∧st.2=((enc p).length:Int)∧st.1=ints p) (fun st=>L.length-st.2.toNat) ⟨[],L,by simp,rfl,rfl,rfl,rfl⟩ fun st ⟨p,t,hp,hL,hv,e,g⟩=>?_
  obtain ⟨out,a⟩:=st
  simp only at e g
  subst e g
  dsimp only
  have hlen:L.length=(enc p).length+t.length:=by rw[hL,List.length_append]
  refine Tot.ite (fun h=>?_) (fun h=>?_)
  ·have h:0<t.length:=by have:(((enc p).length:Nat):Int)<(L.length:Int):=of_decide_eq_true h;omega
   have hne:t≠[]:=List.length_pos_iff.1 h
   refine Tot.bindq (unit_tot (by omega) (by omega)) fun r hr=>?_
   have hd:L.drop (enc p).length=t:=by rw[hL,List.drop_left]
   rw[hd]at hr
   have hw:=decodeL_width t
   have hle:=decodeL_le t hne
   have hvt:=validD_step t hne
   by_cases hb:bad (decodeL t)
   ·have hu:r=(0,0):=by rw[hr];unfold U;rw[if_pos hb]
    subst hu
    rw[if_pos (show (decodeL t).1=65533∧(decodeL t).2=1 from hb)]at hvt
    exact Tot.it rfl (Tot.ret (.inl ⟨by rw[← hv,hvt],rfl⟩))
   ·have hu:r=(((decodeL t).1:Int),((decodeL t).2:Int)):=by rw[hr];unfold U;rw[if_neg hb]
    subst hu
    rw[if_neg (show ¬ ((decodeL t).1=65533∧(decodeL t).2=1) from hb)]at hvt
    refine Tot.if_ (beq_eq_false_iff_ne.2 (by dsimp only;omega)) ?_
    have hpl:=enc_len_ge p
    refine Tot.bind0 (app_ok (by rw[ints_len];simp only[List.length_cons,List.length_nil];omega)) (Tot.ret ?_)
    have hsc:=decode_scal hne hb
    have htake:encR (decodeL t).1=t.take (decodeL t).2:=encode_decode t hne hb
    have hw2:IntKind.i64.wrap (((enc p).length:Int)+((decodeL t).2:Int))=(((enc (p++[(decodeL t).1])).length:Nat):Int):=by
     rw[i64_small (by omega) (by omega),enc_app,List.length_append,show enc [(decodeL t).1]=encR (decodeL t).1 by simp[enc],htake,List.length_take]
     omega
    refine ⟨⟨p++[(decodeL t).1],t.drop (decodeL t).2,?_,?_,by rw[← hvt,hv],hw2,?_⟩,?_⟩
    ·intro x hx
     rcases List.mem_append.1 hx with h' | h'
     ·exact hp x h'
     ·rw[List.mem_singleton.1 h'];exact hsc
    ·rw[enc_app,show enc [(decodeL t).1]=encR (decodeL t).1 by simp[enc],htake,List.append_assoc,List.take_append_drop,hL]
    ·exact (ints_app _ [_]).symm
    ·show L.length-(IntKind.i64.wrap (((enc p).length:Int)+((decodeL t).2:Int))).toNat<L.length-(((enc p).length:Nat):Int).toNat
     rw[i64_small (by omega) (by omega)];omega
  ·have h:t=[]:=List.length_eq_zero_iff.1 (by have:¬ (((enc p).length:Nat):Int)<(L.length:Int):=of_decide_eq_false h;omega)
   subst h
   exact Tot.ret (.inr ⟨p,hp,by rw[hL,List.append_nil],rfl⟩)
 ·rcases hr with ⟨h,e⟩ | ⟨p,hp,h,e⟩
  ·subst e;exact Tot.contr (.inl ⟨h,rfl⟩)
  ·subst e;exact Tot.contl (Tot.ret (.inr ⟨p,hp,h,rfl⟩))
/-! ### a text's runes, as the range statement takes them -/
theorem decode_drop (s:ByteArray) (i:Nat):Utf8.decode s i=decodeL ((bytesOf s).drop i):=by
 rw[decode_at,decodeL_N,drop_getD,drop_getD,drop_getD,drop_getD,List.length_drop,get_getD,get_getD,get_getD,get_getD,size_bytes]
 simp only[Nat.add_zero]
theorem rune_at {s:ByteArray} {p t:List Nat} {r:Nat} (hr:Scal r) (h:bytesOf s=enc (p++r::t)):runeI s (enc p).length=(r:Int)∧runeN s (enc p).length=(encR r).length:=by
 unfold runeI runeN
 rw[decode_drop,h,enc_app,List.drop_left,enc_cons,decode_enc r hr]
 exact ⟨rfl,rfl⟩
/-! ### codings -/
def codeR (c:Int) (r:Nat):List UInt8:=
 if c=0 then encR r else if c=1 then [UInt8.ofNat r] else if r<65536 then [UInt8.ofNat (r/256),UInt8.ofNat (r%256)]
 else [UInt8.ofNat (216+(r-65536)/1024/256),UInt8.ofNat ((r-65536)/1024%256),UInt8.ofNat (220+(r-65536)%1024/256),UInt8.ofNat ((r-65536)%1024%256)]
def codeL (c:Int) (p:List Nat):List UInt8:=p.flatMap (codeR c)
theorem codeR_len (c:Int) (r:Nat):(codeR c r).length≤4:=by
 unfold codeR
 have:=encR_pos r
 repeat' split
 all_goals first | omega | (simp only[List.length_cons,List.length_nil];omega)
theorem codeL_len (c:Int) (p:List Nat):(codeL c p).length≤4*p.length:=by
 induction p with
 | nil=>simp[codeL]
 | cons r p ih=>
   have:=codeR_len c r
   unfold codeL at*
   rw[List.flatMap_cons,List.length_append,List.length_cons];omega
theorem codeL_zero (p:List Nat):codeL 0 p=enc p:=by
 have:codeR 0=encR:=by funext r;unfold codeR;rw[if_pos rfl]
 unfold codeL enc
 rw[this]
theorem u8_mod (z:Int):u8 (IntKind.u8.wrap z)=some (UInt8.ofNat (z%256).toNat):=by
 rw[u8_wrap]
 unfold u8
 rw[if_pos (by omega)]
theorem u8_of {z:Int} {n:Nat} (h:z=(n:Int)):u8 (IntKind.u8.wrap z)=some (UInt8.ofNat n):=by
 rw[u8_mod]
 congr 1
 apply UInt8.toNat.inj
 rw[UInt8.toNat_ofNat',UInt8.toNat_ofNat']
 omega
end Go.Gv.R
namespace Go.Gv.R
open Go Go.Gv Go.Gv.D Go.Lib
theorem iw {x:Int} {n:Nat} (h:x=(n:Int)) (h':n<4611686018427387904):IntKind.i64.wrap x=(n:Int):=by rw[h,i64_small (by omega) (by omega)]
theorem enc_len_le (p:List Nat):(enc p).length≤4*p.length:=by rw[← codeL_zero];exact codeL_len 0 p
theorem enc_snoc (p:List Nat) (r:Nat):enc (p++[r])=enc p++encR r:=by rw[enc_app];simp[enc]
theorem toU8 (n:Nat):((n:Int).toNat.toUInt8)=UInt8.ofNat n:=by rw[Int.toNat_natCast]
theorem encR1 {r:Nat} (h:r≤127):encR r=[UInt8.ofNat r]:=by
 unfold encR encodeRune
 rw[encodeRuneZ_one (by omega) (by omega)]
 simp only[List.map_cons,List.map_nil,toU8]
theorem encR2 {r:Nat} (h:128≤r) (h':r≤2047):encR r=[UInt8.ofNat (192+r/64),UInt8.ofNat (128+r%64)]:=by
 unfold encR encodeRune
 rw[encodeRuneZ_two (by omega) (by omega),show 192+(r:Int)/64=((192+r/64:Nat):Int) by omega,show 128+(r:Int)%64=((128+r%64:Nat):Int) by omega]
 simp only[List.map_cons,List.map_nil,toU8]
theorem encR3 {r:Nat} (h:2048≤r) (h':r≤65535) (hs:Scal r):encR r=[UInt8.ofNat (224+r/4096),UInt8.ofNat (128+r/64%64),UInt8.ofNat (128+r%64)]:=by
 unfold Scal at hs
 unfold encR encodeRune
 rw[encodeRuneZ_three (by omega),show 224+(r:Int)/4096=((224+r/4096:Nat):Int) by omega,show 128+(r:Int)/64%64=((128+r/64%64:Nat):Int) by omega,show 128+(r:Int)%64=((128+r%64:Nat):Int) by omega]
 simp only[List.map_cons,List.map_nil,toU8]
theorem encR4 {r:Nat} (h:65536≤r) (h':r≤1114111):encR r=[UInt8.ofNat (240+r/262144),UInt8.ofNat (128+r/4096%64),UInt8.ofNat (128+r/64%64),UInt8.ofNat (128+r%64)]:=by
 unfold encR encodeRune
 rw[encodeRuneZ_four (by omega) (by omega),show 240+(r:Int)/262144=((240+r/262144:Nat):Int) by omega,show 128+(r:Int)/4096%64=((128+r/4096%64:Nat):Int) by omega,show 128+(r:Int)/64%64=((128+r/64%64:Nat):Int) by omega,show 128+(r:Int)%64=((128+r%64:Nat):Int) by omega]
 simp only[List.map_cons,List.map_nil,toU8]
theorem td {a:Nat} (k:Nat) (h:a<4611686018427387904):IntKind.i64.wrap ((a:Int).tdiv (k:Int))=((a/k:Nat):Int):=by
 have:a/k≤a:=Nat.div_le_self ..
 rw[Int.tdiv_eq_ediv_of_nonneg (by omega)]
 exact iw (by simp) (by omega)
theorem tm (a k:Nat):(a:Int).tmod (k:Int)=((a%k:Nat):Int):=by
 rw[Int.tmod_eq_emod_of_nonneg (by omega)];simp
theorem plus (a b:Nat) (h:a+b<4611686018427387904):IntKind.i64.wrap ((a:Int)+(b:Int))=((a+b:Nat):Int):=iw (by omega) h
theorem Encoded_tot {p:List Nat} (hp:∀ r∈p,Scal r) (hl:p.length≤100000000):Tot (fun fuel=>ref4_Encoded fuel (ints p)) (fun r=>r=enc p):=by
 unfold ref4_Encoded
 refine Tot.bindq (P:=fun r=>r=enc p) ?_ fun r hr=>Tot.ret hr
 refine Tot.loop (fun st=>∃ i:Nat,st.2=(i:Int)∧i≤p.length∧st.1=enc (p.take i)) (fun st=>p.length-st.2.toNat) ⟨0,rfl,by omega,rfl⟩ fun st ⟨i,e,hi,g⟩=>?_
 obtain ⟨out,q⟩:=st
 simp only at e g
 subst e g
 dsimp only
 rw[ints_len]
 refine Tot.ite (fun h=>?_) (fun h=>?_)
 ·have hq:i<p.length:=by have:((i:Nat):Int)<(p.length:Int):=of_decide_eq_true h;omega
  have hr:=hp _ (List.getElem_mem hq)
  have hlen:=enc_len_le (p.take i)
  rw[List.length_take]at hlen
  refine Tot.bind0 (ints_get hq) ?_
  refine Tot.bindq (P:=fun r=>r=enc (p.take (i+1))) ?_ fun r hr=>?_
  ·rw[take_snoc hq,enc_snoc]
   have hsc:=hr
   have hrs:p[i]≤1114111:=by unfold Scal at hr;omega
   clear hr
   generalize p[i]=r at hsc hrs
   generalize enc (p.take i)=A at hlen
   have happ:∀ y:List UInt8,y.length≤4→app A y=some (A++y):=fun y hy=>app_ok (by omega)
   refine Tot.ite (fun c=>?_) (fun c=>?_)
   ·have c:r<128:=by have:(r:Int)<128:=of_decide_eq_true c;omega
    rw[encR1 (by omega)]
    exact Tot.bind0 (u8_of rfl) (Tot.bind0 (happ _ (by simp)) (Tot.ret rfl))
   have c:¬ r<128:=by have:¬ (r:Int)<128:=of_decide_eq_false c;omega
   refine Tot.ite (fun c2=>?_) (fun c2=>?_)
   ·have c2:r<2048:=by have:(r:Int)<2048:=of_decide_eq_true c2;omega
    rw[encR2 (by omega) (by omega),show (64:Int)=((64:Nat):Int) from rfl,td 64 (by omega),tm,show (192:Int)=((192:Nat):Int) from rfl,show (128:Int)=((128:Nat):Int) from rfl,plus 192 _ (by omega),plus 128 _ (by omega)]
    exact Tot.bind0 (u8_of rfl) (Tot.bind0 (u8_of rfl) (Tot.bind0 (happ _ (by simp)) (Tot.ret rfl)))
   have c2:¬ r<2048:=by have:¬ (r:Int)<2048:=of_decide_eq_false c2;omega
   refine Tot.ite (fun c3=>?_) (fun c3=>?_)
   ·have c3:r<65536:=by have:(r:Int)<65536:=of_decide_eq_true c3;omega
    rw[encR3 (by omega) (by omega) hsc,show (64:Int)=((64:Nat):Int) from rfl,show (4096:Int)=((4096:Nat):Int) from rfl,td 64 (by omega),td 4096 (by omega),tm,tm,show (224:Int)=((224:Nat):Int) from rfl,show (128:Int)=((128:Nat):Int) from rfl,plus 224 _ (by omega),plus 128 _ (by omega),plus 128 _ (by omega)]
    exact Tot.bind0 (u8_of rfl) (Tot.bind0 (u8_of rfl) (Tot.bind0 (u8_of rfl) (Tot.bind0 (happ _ (by simp)) (Tot.ret rfl))))
   ·have c3:¬ r<65536:=by have:¬ (r:Int)<65536:=of_decide_eq_false c3;omega
    rw[encR4 (by omega) (by omega),show (64:Int)=((64:Nat):Int) from rfl,show (4096:Int)=((4096:Nat):Int) from rfl,show (262144:Int)=((262144:Nat):Int) from rfl,td 64 (by omega),td 4096 (by omega),td 262144 (by omega),tm,tm,tm,show (240:Int)=((240:Nat):Int) from rfl,show (128:Int)=((128:Nat):Int) from rfl,plus 240 _ (by omega),plus 128 _ (by omega),plus 128 _ (by omega),plus 128 _ (by omega)]
    exact Tot.bind0 (u8_of rfl) (Tot.bind0 (u8_of rfl) (Tot.bind0 (u8_of rfl) (Tot.bind0 (u8_of rfl) (Tot.bind0 (happ _ (by simp)) (Tot.ret rfl)))))
  ·subst hr
   refine Tot.ret ⟨⟨i+1,?_,hq,rfl⟩,?_⟩
   ·exact iw (by omega) (by omega)
   ·show p.length-(IntKind.i64.wrap ((i:Int)+1)).toNat<p.length-((i:Nat):Int).toNat
    rw[iw (n:=i+1) (by omega) (by omega)];omega
 ·have h:i=p.length:=by have:¬ ((i:Nat):Int)<(p.length:Int):=of_decide_eq_false h;omega
  subst h
  exact Tot.ret (by rw[List.take_length])
theorem String_tot {p:List Nat} (hp:∀ r∈p,Scal r) (hl:p.length≤100000000):Tot (fun fuel=>ref4_String fuel (ints p)) (fun r=>r=strOf (enc p)):=by
 unfold ref4_String
 exact Tot.bindq (Encoded_tot hp hl) fun r hr=>Tot.ret (by rw[hr])
end Go.Gv.R
