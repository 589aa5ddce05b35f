import Derived.Test.YtmpmeiihjnnomaaGreatDoorYE
import Derived.Test.YtmpmeiihjnnomaaGreatDoorYO
set_option linter.all false
open Go.Gv.Tot renaming bindq->aa,ret->ad,if_->af,it->ai,bind0->am
open List renaming length_cons->ab,length_append->ac,mem_cons_of_mem->aj,mem_cons->ak,length->al,length_map->ao
open Int renaming le_refl->ae
open Bool renaming false_eq_true->ag
open Nat renaming le_refl->an
namespace Go.Gv.M
open Go Go.Gv Go.Gv.D Go.Gv.X Go.Gv.R Go.Gv.P Go.Lib
set_option maxHeartbeats 4000000
def zvo (G:Nat):List Nat->Option (List (Nat ⊕ Nat))
 | []=>some []
 | [c]=>if c=92 then none else some [.inl c]
 | c::d::t=>if c=92 then (if d=92 then (zvo G t).map (.inl 92:: ·) else if 48<=d∧d<=48+G then (zvo G t).map (.inr (d-48):: ·) else none) else (zvo G (d::t)).map (.inl c:: ·)
theorem ztp {G:Nat} {c:Nat} (h:c≠92):∀ t,zvo G (c::t)=(zvo G t).map (.inl c:: ·)
 | []=>by rw[zvo.eq_2,if_neg h];rfl
 | d::t=>by rw[zvo.eq_3,if_neg h]
def znT:List (Nat ⊕ Nat)->List (UInt8 ⊕ Nat)
 | []=>[]
 | .inl c::t=>(zwV c).map .inl++znT t
 | .inr k::t=>.inr k::znT t
theorem zk1 {c:Nat} (h:Scal c):(c=92->zwV c=[92])∧(c≠92->∀ b∈zwV c,b≠92):=by
 refine ⟨fun e=>by subst e;exact zqk om,fun hc b hb e=>?_⟩
 subst e
 have hm:∀ n:Nat,(UInt8.ofNat (128+n%64))≠92:=fun n e=>by
  have:=congrArg UInt8.toNat e
  rw[UInt8.toNat_ofNat',Nat.mod_eq_of_lt om]at this
  have a:(92:UInt8).toNat=92:=rfl
  omega
 have hn:∀ n:Nat,n<256->n≠92->(UInt8.ofNat n)≠92:=fun n h1 h2 e=>by
  have:=congrArg UInt8.toNat e
  rw[UInt8.toNat_ofNat',Nat.mod_eq_of_lt om]at this
  have a:(92:UInt8).toNat=92:=rfl
  omega
 have hs:=zsk h
 rcases (by omega:c<=127∨(128<=c∧c<=2047)∨(2048<=c∧c<=65535)∨65536<=c) with k | k | k | k
 ·rw[zqk k]at hb
  simp only[List.mem_singleton]at hb
  exact hn c om hc hb.symm
 ·rw[znN k.1 k.2]at hb
  simp only[ak,List.not_mem_nil,or_false]at hb
  rcases hb with hb | hb
  ·exact hn _ om om hb.symm
  ·exact hm _ hb.symm
 ·rw[zoH k.1 k.2 h]at hb
  simp only[ak,List.not_mem_nil,or_false]at hb
  rcases hb with hb | hb | hb
  ·exact hn _ om om hb.symm
  ·exact hm _ hb.symm
  ·exact hm _ hb.symm
 ·rw[zo5 k hs]at hb
  simp only[ak,List.not_mem_nil,or_false]at hb
  rcases hb with hb | hb | hb | hb
  ·exact hn _ om om hb.symm
  ·exact hm _ hb.symm
  ·exact hm _ hb.symm
  ·exact hm _ hb.symm
theorem zpf {G:Nat}:∀ (u v:List UInt8),(∀ b∈u,b≠92)->zw7 G (u++v)=(zw7 G v).map (u.map .inl++ ·)
 | [],v,_=>by simp
 | b::u,v,h=>by
   rw[List.cons_append,zrO (h b (by simp)),zpf u v (fun x hx=>h x (aj _ hx))]
   cases zw7 G v<;>simp
theorem zqf {G:Nat} (hG:G<=9):∀ (k:Nat) (t:List Nat),t.length<=k->(∀ c∈t,Scal c)->zw7 G (enc t)=(zvo G t).map znT
 | _,[],_,_=>rfl
 | 0,c::t,h,_=>by simp at h
 | k+1,c::t,hk,hs=>by
   rw[ab]at hk
   have hc:=hs c (by simp)
   obtain ⟨e1,e2⟩:=zk1 hc
   by_cases h:c=92
   ·cases t with
    | nil=>subst h;rw[zz7,e1 rfl];rfl
    | cons d t=>
      rw[ab]at hk
      have hd:=hs d (by simp)
      have ht:∀ c∈t,Scal c:=fun x hx=>hs x (by simp[hx])
      have ih:=zqf hG k t om ht
      obtain ⟨b,u,h1,h2,h3⟩:=zmE hd t
      rw[zz7,e1 h,h1,List.singleton_append,zw7.eq_3,if_pos rfl,zvo.eq_3,if_pos h]
      by_cases g:d<128
      ·obtain ⟨rfl,rfl⟩:=h2 g
       have hb:(UInt8.ofNat d).toNat=d:=by rw[UInt8.toNat_ofNat',Nat.mod_eq_of_lt om]
       rw[hb,ih]
       by_cases f:d=92
       ·subst f
        rw[if_pos (show UInt8.ofNat 92=92 from rfl),if_pos rfl]
        cases zvo G t with
        | none=>rfl
        | some v=>simp[znT,zqk]
       ·rw[if_neg (show ¬ UInt8.ofNat d=92 from fun e=>by have:=congrArg UInt8.toNat e;rw[hb]at this;exact f this),if_neg f]
        by_cases a:48<=d∧d<=48+G
        ·rw[if_pos a,if_pos a]
         cases zvo G t with
         | none=>rfl
         | some v=>simp[znT]
        ·rw[if_neg a,if_neg a];rfl
      ·have hb:=h3 om
       rw[if_neg (show ¬ b=92 from fun e=>by subst e;exact absurd hb ddc),if_neg om,if_neg om,if_neg om]
       rfl
   ·rw[zz7,zpf _ _ (e2 h),ztp h,zqf hG k t om (fun x hx=>hs x (aj _ hx))]
    cases zvo G t with
    | none=>rfl
    | some v=>simp[znT]
def ztW (ps:List Nat) (g:Sp):List (Nat ⊕ Nat)->List Nat
 | []=>[]
 | .inl c::t=>c::ztW ps g t
 | .inr k::t=>pcN ps g k++ztW ps g t
theorem zqR (ps:List Nat) (g:Sp):∀ its,zoz ps g (znT its)=enc (ztW ps g its)
 | []=>rfl
 | .inl c::t=>by rw[znT,zrw,zqR ps g t,ztW,zz7]
 | .inr k::t=>by rw[znT,zoz,zqR ps g t,ztW,zyC]
def zov (ps:List Nat) (its:List (Nat ⊕ Nat)):Int->List Sp->List Nat
 | last,[]=>slice ps last ps.length
 | last,g::t=>slice ps last (st0 g).1++(ztW ps g its++zov ps its (st0 g).2 t)
theorem znm (ps:List Nat) (its:List (Nat ⊕ Nat)):∀ (l:List Sp) (last:Int),zq0 ps (znT its) last l=enc (zov ps its last l)
 | [],last=>by rw[zq0,zov]
 | g::t,last=>by rw[zq0,zov,znm ps its t,zqR,zyC,zyC]
theorem zwm {G:Nat}:∀ (k:Nat) (l:List Nat) (its:List (Nat ⊕ Nat)),l.length<=k->zvo G l=some its->its.length<=l.length∧(∀ j,.inr j∈its->j<=G)∧∀ c,.inl c∈its->c∈l
 | _,[],its,_,h=>by rw[zvo]at h;cases h;simp
 | _,[c],its,_,h=>by
   rw[zvo.eq_2]at h
   split at h
   ·cases h
   ·cases h;simp
 | 0,c::d::t,its,hk,_=>by simp at hk
 | k+1,c::d::t,its,hk,h=>by
   rw[ab,ab]at hk
   rw[zvo.eq_3]at h
   split at h
   ·split at h
    ·rename_i h1 h2
     cases ht:zvo G t with
     | none=>rw[ht]at h;cases h
     | some v=>
       rw[ht]at h;cases h
       obtain ⟨i1,i2,i3⟩:=zwm k t v om ht
       refine ⟨oss,fun j hj=>i2 j (by simpa using hj),fun x hx=>?_⟩
       rcases ak.1 hx with e | e
       ·cases e;simp[h1]
       ·simp[i3 x e]
    ·split at h
     ·rename_i hd
      cases ht:zvo G t with
      | none=>rw[ht]at h;cases h
      | some v=>
        rw[ht]at h;cases h
        obtain ⟨i1,i2,i3⟩:=zwm k t v om ht
        refine ⟨oss,fun j hj=>?_,fun x hx=>?_⟩
        ·rcases ak.1 hj with e | e
         ·cases e;omega
         ·exact i2 j e
        ·rcases ak.1 hx with e | e
         ·cases e
         ·simp[i3 x e]
     ·cases h
   ·cases ht:zvo G (d::t) with
    | none=>rw[ht]at h;cases h
    | some v=>
      rw[ht]at h;cases h
      obtain ⟨i1,i2,i3⟩:=zwm k (d::t) v oss ht
      refine ⟨by simp at i1 ⊢;omega,fun j hj=>i2 j (by simpa using hj),fun x hx=>?_⟩
      rcases ak.1 hx with e | e
      ·cases e;simp
      ·exact aj _ (i3 x e)
abbrev S8 (l:List Nat):ByteArray:=strOf (enc l)
def zqY (most:Int) (ps:List Nat):Int->List (List Nat)->List Sp->List (List Nat) × Int
 | e,acc,[]=>(acc,e)
 | e,acc,g::t=>if (st0 g).1<(st0 g).2∧(most<0∨(acc.length:Int)<most) then zqY most ps (st0 g).2 (acc++[slice ps e (st0 g).1]) t else zqY most ps e acc t
theorem zvn {most:Int} {G:Nat} {ps:List Nat}:∀ (l:List Sp) (i e:Int) (acc:List (List Nat)),Chain G ps.length i l->0<=e->e<=i->e<=(ps.length:Int)->0<=(zqY most ps e acc l).2∧(zqY most ps e acc l).2<=(ps.length:Int)∧(zqY most ps e acc l).1.length<=acc.length+l.length
 | [],i,e,acc,_,h0,_,h2=>⟨h0,h2,by simp[zqY]⟩
 | g::t,i,e,acc,hc,h0,h1,h2=>by
   cases hc with
   | @cons _ _ s e' _ hW hg c1 c2 c3 c4=>
     have a:st0 g=(s,e'):=by unfold st0;simp[List.getD,hg]
     rw[zqY,a]
     split
     ·have:=zvn (most:=most) t e' e' (acc++[slice ps e s]) (c4.le (by split<;>omega)) om (ae _) c3
      simp only[ac,ab,List.length_nil]at this ⊢
      omega
     ·have:=zvn (most:=most) t (if s=e' then e'+1 else e') e acc c4 h0 (by split<;>omega) h2
      rw[ab]
      omega
noncomputable def zlV (tx:List Int) (all:List Sp) (most:Int) (s124:List ByteArray × Int × Int):Option ((List ByteArray × Int × Int) ⊕ (List ByteArray × Int)):=
 (if (decide (s124.2.2<((al all:Nat):Int))) then (Option.bind (Option.bind (idx all s124.2.2) fun x160=>(Option.bind (Option.bind (idx x160 0) fun x183=>(Option.bind (idx x160 0) fun x192=>(if (x183.1==x192.2) then (some (true)) else (if (decide (most>=0)) then (some ((decide (((al s124.1:Nat):Int)>=most)))) else (some (false)))))) fun (j176:Bool)=>(if j176 then (some ((s124.1,s124.2.1))) else (Option.bind (idx x160 0) fun x265=>(Option.bind (sub tx s124.2.1 x265.1) fun x268=>(Option.bind (app s124.1 ([(ztB x268)]:List ByteArray)) fun l285=>(Option.bind (idx x160 0) fun x325=>(some ((l285,x325.2)))))))))) fun (j158:((List ByteArray) × Int))=>(some (.inl (j158.1,j158.2,(IntKind.i64.wrap (s124.2.2+1)))))) else (some (.inr ((s124.1,s124.2.1)))))
noncomputable def znl (m:Nat) (tx:List Int) (a7 all:List Sp) (most:Int) (s441:List ByteArray × Int × Int):Option ((List ByteArray × Int × Int) ⊕ ((List ByteArray × Int) ⊕ (Unit ⊕ Bool))):=
 (if (decide (s441.2.2<((al all:Nat):Int))) then (Option.bind (idx all s441.2.2) fun x471=>(Option.bind (idx x471 0) fun x477=>(Option.bind (idx a7 s441.2.2) fun x492=>(Option.bind (idx all s441.2.2) fun x503=>(Option.bind (zyz m x492 x503) fun r520=>(if (!r520) then (some (.inr (.inr (.inr (false))))) else (Option.bind (if (decide (x477.1<x477.2)) then (if (decide (most<0)) then (some (true)) else (some ((decide (((al s441.1:Nat):Int)<most))))) else (some (false))) fun (j531:Bool)=>(Option.bind (if j531 then (Option.bind (sub tx s441.2.1 x477.1) fun x612=>(Option.bind (zzD m x612) fun r618=>(Option.bind (app s441.1 ([r618]:List ByteArray)) fun l636=>(some ((l636,x477.2)))))) else (some ((s441.1,s441.2.1)))) fun (j609:((List ByteArray) × Int))=>(some (.inl (j609.1,j609.2,(IntKind.i64.wrap (s441.2.2+1))))))))))))) else (some (.inr (.inl (s441.1,s441.2.1)))))
section
variable {ps:List Nat} (hp:∀ c∈ps,Scal c) (hl:ps.length<=400) {G:Nat} (hG:G<=9) (most:Int) (all:List Sp) (hal:all.length<=1000)
include hp hl hG hal
theorem zu5:∀ (rest:List Sp) (i e:Int),Chain G ps.length i rest->0<=e->e<=i->e<=(ps.length:Int)->∀ (pre:List Sp),all=pre++rest->∀ (acc:List (List Nat)),acc.length<=pre.length->
 LT (fun _=>zlV (zzK ps) all most) (acc.map S8,e,(pre.length:Int)) (· =((zqY most ps e acc rest).1.map S8,(zqY most ps e acc rest).2))∧LT (fun m=>znl m (zzK ps) all all most) (acc.map S8,e,(pre.length:Int)) (· = .inl ((zqY most ps e acc rest).1.map S8,(zqY most ps e acc rest).2))
 | [],i,e,hc,h0,h1,h2,pre,he,acc,ha=>by
   refine ⟨LT.fin (r:=(acc.map S8,e)) (Tot.alln fun m=>?_) rfl,LT.fin (r:=.inl (acc.map S8,e)) (Tot.alln fun m=>?_) rfl⟩
   ·unfold zlV;rw[if_neg (by simp[he])]
   ·unfold znl;rw[if_neg (by simp[he])]
 | g::t,i,e,hc,h0,h1,h2,pre,he,acc,ha=>by
   cases hc with
   | @cons _ _ s e' _ hW hg c1 c2 c3 c4=>
     have u:st0 g=(s,e'):=by unfold st0;simp[List.getD,hg]
     have hi:idx all (pre.length:Int)=some g:=by rw[he];exact zzL pre _ t rfl
     have hg0:idx g 0=some (s,e'):=by rw[show (0:Int)=((0:Nat):Int) from rfl,idx_nat,hg]
     have hlp:pre.length<all.length:=by rw[he];simp
     have k:(((pre++[g]).length:Nat):Int)=((pre.length+1:Nat):Int):=by simp
     have hw:IntKind.i64.wrap ((pre.length:Int)+1)=((pre.length+1:Nat):Int):=by rw[zzw om om];omega
     have l:=zxf (ps:=ps) h0 (show e<=s by omega) (show s<=(ps.length:Int) by omega)
     have j:app (acc.map S8) ([S8 (slice ps e s)]:List ByteArray)=some ((acc++[slice ps e s]).map S8):=by rw[zjM _ oss];simp
     have hsl:=zxK ps e s
     rw[zqY,u]
     simp only
     by_cases d:s<e'∧(most<0∨(acc.length:Int)<most)
     ·obtain ⟨iA,iB⟩:=zu5 t e' e' (c4.le (by split<;>omega)) om (ae _) c3 (pre++[g]) (by rw[he];simp) (acc++[slice ps e s]) oss
      rw[k]at iA iB
      rw[if_pos d]
      refine ⟨LT.step (Tot.alln fun m=>?_) iA,LT.step ?_ iB⟩
      ·unfold zlV
       simp only[dtt (show (pre.length:Int)<((all.length:Nat):Int) by omega),if_true,hi,hg0,Option.bind_some,ao,l,zvs (zyf hp _ _)]
       rw[if_neg oss]
       by_cases hm:most>=0
       ·simp only[dtt hm,if_true,dff (show ¬ ((acc.length:Int)>=most) by omega),Option.bind_some,ag,if_false]
        rw[j];simp only[Option.bind_some,hw]
       ·simp only[dff hm,ag,if_false,Option.bind_some]
        rw[j];simp only[Option.bind_some,hw]
      ·refine eqf (g:=fun m=>(zyz m g g).bind fun b=>(if (!b) then (some (.inr (.inr (.inr (false))))) else (Option.bind (zzD m (zzK (slice ps e s))) fun q=>(Option.bind (app (acc.map S8) ([q]:List ByteArray)) fun o=>(some (.inl (o,e',((pre.length+1:Nat):Int))))):Option ((List ByteArray × Int × Int) ⊕ ((List ByteArray × Int) ⊕ (Unit ⊕ Bool)))))) (fun m=>?_) ?_
       ·unfold znl
        simp only[dtt (show (pre.length:Int)<((all.length:Nat):Int) by omega),if_true,hi,hg0,Option.bind_some,ao,dtt d.1,hw,l]
        refine congrArg (Option.bind _) ?_
        funext b
        have hd:(if decide (most<0)=true then some true else some (decide ((acc.length:Int)<most)))=some true:=by
         rcases d.2 with h | h
         ·rw[if_pos (dtt h)]
         ·rw[dtt h];split<;>rfl
        rw[hd]
        cases b
        ·rfl
        ·simp only[Bool.not_true,ag,if_false,Option.bind_some,if_true]
         cases zzD m (zzK (slice ps e s)) with
         | none=>rfl
         | some v=>simp only[Option.bind_some];cases app (acc.map S8) [v]<;>rfl
       ·refine aa (zrB (by have:=hW.1;unfold BigR;omega)) fun a e=>?_
        rw[dtt rfl]at e
        subst e
        refine af rfl (aa (zvl (zyf hp _ _) om) fun a e=>?_)
        subst e
        exact am j (ad rfl)
     ·obtain ⟨iA,iB⟩:=zu5 t (if s=e' then e'+1 else e') e c4 h0 (by split<;>omega) h2 (pre++[g]) (by rw[he];simp) acc oss
      rw[k]at iA iB
      rw[if_neg d]
      refine ⟨LT.step (Tot.alln fun m=>?_) iA,LT.step ?_ iB⟩
      ·unfold zlV
       simp only[dtt (show (pre.length:Int)<((all.length:Nat):Int) by omega),if_true,hi,hg0,Option.bind_some,ao]
       by_cases f:s=e'
       ·rw[if_pos (by simpa using f)];simp only[Option.bind_some,if_true,hw]
       ·rw[if_neg (by simpa using f),if_pos (dtt om),dtt (show ((acc.length:Int)>=most) by omega)]
        simp only[Option.bind_some,if_true,hw]
      ·refine eqf (g:=fun m=>(zyz m g g).bind fun b=>(if (!b) then (some (.inr (.inr (.inr (false))))) else (some (.inl (acc.map S8,e,((pre.length+1:Nat):Int)))):Option ((List ByteArray × Int × Int) ⊕ ((List ByteArray × Int) ⊕ (Unit ⊕ Bool))))) (fun m=>?_) ?_
       ·unfold znl
        simp only[dtt (show (pre.length:Int)<((all.length:Nat):Int) by omega),if_true,hi,hg0,Option.bind_some,ao,hw]
        refine congrArg (Option.bind _) ?_
        funext b
        have hd:(if decide (s<e')=true then (if decide (most<0)=true then some true else some (decide ((acc.length:Int)<most))) else some false)=some false:=by
         by_cases f:s<e'
         ·rw[if_pos (dtt f),if_neg oss,dff om]
         ·rw[if_neg (by simpa using f)]
        rw[hd]
        cases b<;>rfl
       ·refine aa (zrB (by have:=hW.1;unfold BigR;omega)) fun a e=>?_
        rw[dtt rfl]at e
        subst e
        exact af rfl (ad rfl)
end
noncomputable def okF (m:Nat) (p:PcT) (t:List Int) (s836:Bool × Int):Option ((Bool × Int) ⊕ Bool):=
 (if (s836.1&&(decide (s836.2<((al t:Nat):Int)))) then (Option.bind (Option.bind (idx t s836.2) fun x855=>(if (x855 !=92) then (some ((s836.1,s836.2))) else (Option.bind (if (decide ((IntKind.i64.wrap (s836.2+1))<((al t:Nat):Int))) then (Option.bind (idx t (IntKind.i64.wrap (s836.2+1))) fun x863=>(if (x863==92) then (some (true)) else (Option.bind (idx t (IntKind.i64.wrap (s836.2+1))) fun x876=>(if (decide (x876>=48)) then (Option.bind (idx t (IntKind.i64.wrap (s836.2+1))) fun x880=>(Option.bind (zzb m p) fun r884=>(Option.bind (some (decide (x880<=(IntKind.i64.wrap (48+r884))))) fun n890=>(some (n890))))) else (some (false)))))) else (some (false))) fun (j858:Bool)=>(some ((j858,(IntKind.i64.wrap (s836.2+1)))))))) fun (j853:(Bool × Int))=>(some (.inl (j853.1,(IntKind.i64.wrap (j853.2+1)))))) else (some (.inr (s836.1))))
theorem zu7 {pre r:List Nat} {c:Nat} {k:Int} (hk:k=(pre.length:Int)):idx (zzK (pre++c::r)) k=some (c:Int):=by
 subst hk
 have:zzK (pre++c::r)=zzK pre++(c:Int)::zzK r:=by simp[zzK]
 rw[this]
 exact zzL (zzK pre) _ _ (by simp[zzK])
theorem zk9 {p:PcT} {G:Nat} (hG:G<=9) (hg:Tot (fun n=>zzb n p) (· =(G:Int))) {t:List Nat} (ht:t.length<=1048576):∀ (k:Nat) (r pre:List Nat),r.length<=k->t=pre++r->LT (fun m=>okF m p (zzK t)) (true,(pre.length:Int)) (· =(zvo G r).isSome)
 | _,[],pre,_,e=>by
   refine LT.fin (r:=true) (Tot.alln fun m=>?_) rfl
   unfold okF
   rw[if_neg]
   rw[zzW,e];simp
 | 0,c::r,pre,h,_=>by simp at h
 | k+1,c::r,pre,hk,e=>by
   rw[ab]at hk
   have j:t.length=pre.length+(r.length+1):=by rw[e];simp
   have b:∀ (q:Int),LT (fun m=>okF m p (zzK t)) (false,q) (· =false):=fun q=>LT.fin (r:=false) (Tot.alln fun m=>by unfold okF;rfl) rfl
   have hi:idx (zzK t) (pre.length:Int)=some (c:Int):=by rw[e];exact zu7 rfl
   have o:decide ((pre.length:Int)<(((zzK t).length:Nat):Int))=true:=dtt (by rw[zzW];omega)
   have hw:IntKind.i64.wrap ((pre.length:Int)+1)=((pre.length+1:Nat):Int):=by rw[zzw om om];omega
   have g:IntKind.i64.wrap (((pre.length+1:Nat):Int)+1)=((pre.length+2:Nat):Int):=by rw[zzw om om];omega
   by_cases u:c=92
   ·subst u
    cases r with
    | nil=>
      refine LT.step (st':=(false,((pre.length+2:Nat):Int))) (Tot.alln fun m=>?_) (b _)
      unfold okF
      simp only[o,Bool.and_self,if_true,hi,Option.bind_some,hw]
      rw[if_neg ddc,dff (by rw[zzW];simp at j;omega)]
      simp only[ag,if_false,Option.bind_some,g]
    | cons d r=>
      rw[ab]at hk j
      have aq:idx (zzK t) ((pre.length+1:Nat):Int)=some (d:Int):=by
       rw[e,show pre++92::d::r=(pre++[92])++d::r by simp];exact zu7 (by simp)
      have ar:decide (((pre.length+1:Nat):Int)<(((zzK t).length:Nat):Int))=true:=dtt (by rw[zzW];omega)
      have ih:=zk9 hG hg ht k r (pre++[92,d]) om (by rw[e];simp)
      rw[show (((pre++[92,d]).length:Nat):Int)=((pre.length+2:Nat):Int) by simp]at ih
      have f:∀ m,okF m p (zzK t) (true,(pre.length:Int))=(if (((d:Int)==92)) then (some (true)) else (if (decide ((d:Int)>=48)) then (Option.bind (zzb m p) fun ap=>(some (decide ((d:Int)<=(IntKind.i64.wrap (48+ap)))))) else (some (false)))).bind fun (z:Bool)=>some (.inl (z,((pre.length+2:Nat):Int))):=fun m=>by
       unfold okF
       simp only[o,Bool.and_self,if_true,hi,Option.bind_some,hw]
       rw[if_neg ddc]
       simp only[ar,if_true,aq,Option.bind_some]
       cases ((d:Int)==92)
       ·cases decide ((d:Int)>=48)
        ·simp only[ag,if_false,Option.bind_some,g]
        ·simp only[ag,if_false,if_true]
         cases zzb m p with
         | none=>rfl
         | some v=>simp only[Option.bind_some,g]
       ·simp only[if_true,Option.bind_some,g]
      rw[zvo.eq_3,if_pos rfl]
      by_cases h1:d=92
      ·subst h1
       rw[if_pos rfl]
       refine LT.step (st':=(true,((pre.length+2:Nat):Int))) (eqf f (Tot.alln fun m=>rfl)) (ih.mono fun y hy=>?_)
       rw[hy];cases zvo G r<;>rfl
      ·have l:((d:Int)==92)=false:=by rw[beq_eq_false_iff_ne];omega
       rw[if_neg h1]
       by_cases h2:48<=d
       ·refine LT.step (st':=(decide (d<=48+G),((pre.length+2:Nat):Int))) (eqf f ?_) ?_
        ·rw[l,dtt (show (d:Int)>=48 by omega)]
         refine aa (P:=(· =decide (d<=48+G))) (af rfl (ai rfl (aa hg fun a e=>?_))) fun a e=>by subst e;exact ad rfl
         subst e
         rw[zzw (x:=48+(G:Int)) om om]
         refine ad ?_
         by_cases h3:d<=48+G
         ·rw[dtt h3,dtt om]
         ·rw[dff h3,dff om]
        ·by_cases h3:d<=48+G
         ·rw[dtt h3,if_pos ⟨h2,h3⟩]
          refine ih.mono fun y hy=>?_
          rw[hy];cases zvo G r<;>rfl
         ·rw[dff h3,if_neg (fun h=>h3 h.2)]
          exact b _
       ·refine LT.step (st':=(false,((pre.length+2:Nat):Int))) (eqf f (Tot.alln fun m=>?_)) ?_
        ·rw[l,dff (show ¬ ((d:Int)>=48) by omega)];rfl
        ·rw[if_neg (fun h=>h2 h.1)];exact b _
   ·have ih:=zk9 hG hg ht k r (pre++[c]) om (by rw[e];simp)
    rw[show (((pre++[c]).length:Nat):Int)=((pre.length+1:Nat):Int) by simp]at ih
    refine LT.step (Tot.alln fun m=>?_) (ih.mono fun y hy=>?_)
    ·unfold okF
     simp only[o,Bool.and_self,if_true,hi,Option.bind_some]
     rw[if_pos oss]
     simp only[Option.bind_some,hw]
    ·rw[hy,ztp u];cases zvo G r<;>rfl
noncomputable def inF (tx t:List Int) (all:List Sp) (j:Int) (s1048:List Int × Int):Option ((List Int × Int) ⊕ List Int):=
 (if (decide (s1048.2<((al t:Nat):Int))) then (Option.bind (Option.bind (idx t s1048.2) fun x1077=>(if (x1077 !=92) then (Option.bind (idx t s1048.2) fun x1080=>(Option.bind (app s1048.1 ([x1080]:List Int)) fun l1093=>(some ((l1093,s1048.2))))) else (Option.bind (idx t (IntKind.i64.wrap (s1048.2+1))) fun x1129=>(Option.bind (if (x1129==92) then (Option.bind (idx t (IntKind.i64.wrap (s1048.2+1))) fun x1134=>(Option.bind (app s1048.1 ([x1134]:List Int)) fun l1147=>(some (l1147)))) else (Option.bind (idx all j) fun x1184=>(Option.bind (idx t (IntKind.i64.wrap (s1048.2+1))) fun x1188=>(Option.bind (idx x1184 (IntKind.i64.wrap (x1188-48))) fun x1197=>(if (decide (x1197.1>=0)) then (Option.bind (sub tx x1197.1 x1197.2) fun x1211=>(Option.bind (app s1048.1 x1211) fun l1221=>(some (l1221)))) else (some (s1048.1))))))) fun (j1131:(List Int))=>(some ((j1131,(IntKind.i64.wrap (s1048.2+1))))))))) fun (j1075:((List Int) × Int))=>(some (.inl (j1075.1,(IntKind.i64.wrap (j1075.2+1)))))) else (some (.inr (s1048.1))))
noncomputable def wrF (m:Nat) (tx t:List Int) (all:List Sp) (s985:List Int × Int × Int):Option ((List Int × Int × Int) ⊕ (List Int × Int)):=
 (if ((decide (s985.2.2<((al all:Nat):Int)))&&(decide (((al s985.1:Nat):Int)<=4000))) then (Option.bind (idx all s985.2.2) fun x1012=>(Option.bind (idx x1012 0) fun x1018=>(Option.bind (sub tx s985.2.1 x1018.1) fun x1021=>(Option.bind (app s985.1 x1021) fun l1027=>(Option.bind (zzf (inF tx t all s985.2.2) m (l1027,0)) fun (j1046:(List Int))=>(Option.bind (idx all s985.2.2) fun x1345=>(Option.bind (idx x1345 0) fun x1351=>(some (.inl (j1046,x1351.2,(IntKind.i64.wrap (s985.2.2+1)))))))))))) else (some (.inr ((s985.1,s985.2.1)))))
theorem zs6 (a b:List Nat):zzK (a++b)=zzK a++zzK b:=by simp[zzK]
theorem zol {a b:List Nat} (h:a.length+b.length<=4000000000):app (zzK a) (zzK b)=some (zzK (a++b)):=by
 unfold app
 rw[if_pos (by rw[zzW,zzW];omega),zs6]
section
variable {ps:List Nat} (hl:ps.length<=400) {G:Nat} (hG:G<=9) {t:List Nat} (ht:t.length<=1048576) (all:List Sp) (hal:all.length<=1000)
include hl hG ht
theorem zk7 {g:Sp} (hg:GW G ps.length g) {j:Int} (hj:idx all j=some g):∀ (k:Nat) (r pre:List Nat),r.length<=k->t=pre++r->∀ (its:List (Nat ⊕ Nat)),zvo G r=some its->∀ (w:List Nat),w.length+401*r.length<=2000000000->
 LT (fun _=>inF (zzK ps) (zzK t) all j) (zzK w,(pre.length:Int)) (· =zzK (w++ztW ps g its))
 | _,[],pre,_,e,its,hi,w,_=>by
   rw[zvo]at hi
   cases hi
   refine LT.fin (r:=zzK w) (Tot.alln fun m=>?_) (by simp[ztW])
   unfold inF
   rw[if_neg]
   rw[zzW,e];simp
 | 0,c::r,pre,h,_,_,_,_,_=>by simp at h
 | k+1,c::r,pre,hk,e,its,hits,w,hwl=>by
   rw[ab]at hk hwl
   have aq:t.length=pre.length+(r.length+1):=by rw[e];simp
   have hi:idx (zzK t) (pre.length:Int)=some (c:Int):=by rw[e];exact zu7 rfl
   have q:decide ((pre.length:Int)<(((zzK t).length:Nat):Int))=true:=dtt (by rw[zzW];omega)
   have hw:IntKind.i64.wrap ((pre.length:Int)+1)=((pre.length+1:Nat):Int):=by rw[zzw om om];omega
   have l:IntKind.i64.wrap (((pre.length+1:Nat):Int)+1)=((pre.length+2:Nat):Int):=by rw[zzw om om];omega
   by_cases z:c=92
   ·subst z
    cases r with
    | nil=>rw[zvo.eq_2,if_pos rfl]at hits;cases hits
    | cons d r=>
      rw[ab]at hk aq hwl
      have ap:idx (zzK t) ((pre.length+1:Nat):Int)=some (d:Int):=by
       rw[e,show pre++92::d::r=(pre++[92])++d::r by simp];exact zu7 (by simp)
      have ih:=zk7 hg hj k r (pre++[92,d]) om (by rw[e];simp)
      rw[show (((pre++[92,d]).length:Nat):Int)=((pre.length+2:Nat):Int) by simp]at ih
      rw[zvo.eq_3,if_pos rfl]at hits
      by_cases h1:d=92
      ·subst h1
       rw[if_pos rfl]at hits
       cases hv:zvo G r with
       | none=>rw[hv]at hits;cases hits
       | some v=>
         rw[hv]at hits;cases hits
         have:=ih v hv (w++[92]) (by rw[ac,List.length_singleton];omega)
         refine LT.step (st':=(zzK (w++[92]),((pre.length+2:Nat):Int))) (Tot.alln fun m=>?_) (this.mono fun y hy=>by rw[hy];simp[ztW])
         unfold inF
         simp only[q,if_true,hi,Option.bind_some,hw,ap]
         rw[if_neg ddc,if_pos ddc,show app (zzK w) [((92:Nat):Int)]=some (zzK (w++[92])) from zol (a:=w) (b:=[92]) oss]
         simp only[Option.bind_some,l]
      ·rw[if_neg h1]at hits
       split at hits
       ·rename_i hin
        cases hv:zvo G r with
        | none=>rw[hv]at hits;cases hits
        | some v=>
          rw[hv]at hits;cases hits
          have o:=zqi ps g (d-48)
          have:=ih v hv (w++pcN ps g (d-48)) (by rw[ac];omega)
          refine LT.step (st':=(zzK (w++pcN ps g (d-48)),((pre.length+2:Nat):Int))) (Tot.alln fun m=>?_) (this.mono fun y hy=>by rw[hy];simp[ztW])
          have f:d-48<g.length:=by rw[hg.1];omega
          have hx:=hg.2 (d-48) g[d-48] (List.getElem?_eq_getElem f)
          have hd:g.getD (d-48) (0,0)=g[d-48]:=by simp[List.getD,List.getElem?_eq_getElem f]
          unfold inF
          simp only[q,if_true,hi,Option.bind_some,hw,ap]
          rw[if_neg ddc,if_neg oss,hj]
          simp only[Option.bind_some]
          rw[zzw (x:=(d:Int)-48) om om,show (d:Int)-48=((d-48:Nat):Int) by omega,idx_nat,List.getElem?_eq_getElem f]
          simp only[Option.bind_some]
          unfold pcN at o ⊢
          rw[hd]at o ⊢
          generalize g[d-48]=x at*
          by_cases u:x.1<0
          ·rw[if_neg oss,if_pos u,List.append_nil]
           simp only[Option.bind_some,l]
          ·rw[if_neg u]at o ⊢
           rw[if_pos (dtt om),zxf om om om,Option.bind_some,zol om]
           simp only[Option.bind_some,l]
       ·cases hits
   ·rw[ztp z]at hits
    cases hv:zvo G r with
    | none=>rw[hv]at hits;cases hits
    | some v=>
      rw[hv]at hits;cases hits
      have ih:=zk7 hg hj k r (pre++[c]) om (by rw[e];simp) v hv (w++[c]) (by rw[ac,List.length_singleton];omega)
      rw[show (((pre++[c]).length:Nat):Int)=((pre.length+1:Nat):Int) by simp]at ih
      refine LT.step (st':=(zzK (w++[c]),((pre.length+1:Nat):Int))) (Tot.alln fun m=>?_) (ih.mono fun y hy=>by rw[hy];simp[ztW])
      unfold inF
      simp only[q,if_true,hi,Option.bind_some]
      rw[if_pos oss,show app (zzK w) [(c:Int)]=some (zzK (w++[c])) from zol (a:=w) (b:=[c]) oss]
      simp only[Option.bind_some,hw]
include hal
theorem zrs (g:Sp):∀ its:List (Nat ⊕ Nat),(ztW ps g its).length<=401*its.length
 | []=>by simp[ztW]
 | .inl c::t=>by have:=zrs g t;rw[ztW,ab,ab];omega
 | .inr k::t=>by have:=zrs g t;have:=zqi ps g k;rw[ztW,ac,ab];omega
def WrQ (ps W:List Nat) (y:List Int × Int):Prop:=∃ (w:List Nat) (e:Int),y=(zzK w,e)∧0<=e∧e<=(ps.length:Int)∧w.length<=900000000∧(w++slice ps e ps.length=W∨(4000<w.length∧4000<W.length∧∀ c∈w,c∈W))
theorem zia {its:List (Nat ⊕ Nat)} (hits:zvo G t=some its):∀ (rest:List Sp) (i:Int),Chain G ps.length i rest->∀ (e:Int),0<=e->e<=i->e<=(ps.length:Int)->∀ (pre:List Sp),all=pre++rest->∀ (w:List Nat),w.length<=900000000->
 LT (fun m=>wrF m (zzK ps) (zzK t) all) (zzK w,e,(pre.length:Int)) (WrQ ps (w++zov ps its e rest))
 | rest,i,hc,e,h0,h1,h2,pre,he,w,hwl=>by
   by_cases h4:4000<w.length
   ·refine LT.fin (r:=(zzK w,e)) (Tot.alln fun m=>?_) ⟨w,e,rfl,h0,h2,hwl,.inr ⟨h4,by rw[ac];omega,fun c hc=>List.mem_append_left _ hc⟩⟩
    unfold wrF
    rw[if_neg]
    rw[zzW,dff (show ¬ ((w.length:Int)<=4000) by omega),Bool.and_false];decide
   ·cases rest with
    | nil=>
      refine LT.fin (r:=(zzK w,e)) (Tot.alln fun m=>?_) ⟨w,e,rfl,h0,h2,hwl,.inl (by rw[zov])⟩
      unfold wrF
      rw[if_neg]
      rw[he];simp
    | cons g r=>
      cases hc with
      | @cons _ _ s e' _ hW hg c1 c2 c3 c4=>
        have f:st0 g=(s,e'):=by unfold st0;simp[List.getD,hg]
        have hi:idx all (pre.length:Int)=some g:=by rw[he];exact zzL pre _ r rfl
        have hg0:idx g 0=some (s,e'):=by rw[show (0:Int)=((0:Nat):Int) from rfl,idx_nat,hg]
        have hlp:pre.length<all.length:=by rw[he];simp
        have h:IntKind.i64.wrap ((pre.length:Int)+1)=((pre.length+1:Nat):Int):=by rw[zzw om om];omega
        have hsl:=zxK ps e s
        have j:=zk7 hl hG ht all hW hi t.length t [] (an _) rfl its hits (w++slice ps e s) (by rw[ac];omega)
        have hfl:=(zwm _ t its (an _) hits).1
        have hol:=zrs hl hG ht all hal g its
        have ih:=zia hits r e' (c4.le (by split<;>omega)) e' om (ae _) c3 (pre++[g]) (by rw[he];simp) (w++slice ps e s++ztW ps g its) (by rw[ac,ac];omega)
        rw[show (((pre++[g]).length:Nat):Int)=((pre.length+1:Nat):Int) by simp]at ih
        rw[zov,f]
        simp only
        rw[show w++(slice ps e s++(ztW ps g its++zov ps its e' r))=w++slice ps e s++ztW ps g its++zov ps its e' r by simp]
        refine LT.step (st':=(zzK (w++slice ps e s++ztW ps g its),e',((pre.length+1:Nat):Int))) ?_ ih
        refine eqf (g:=fun m=>(zzf (inF (zzK ps) (zzK t) all (pre.length:Int)) m (zzK (w++slice ps e s),0)).bind fun d=>some (.inl (d,e',((pre.length+1:Nat):Int)))) (fun m=>?_) (aa (LT.tot j) fun a e=>by subst e;exact ad rfl)
        unfold wrF
        simp only[zzW,dtt (show (pre.length:Int)<((all.length:Nat):Int) by omega),dtt (show ((w.length:Int)<=4000) by omega),Bool.and_self,if_true,hi,hg0,Option.bind_some,zxf (ps:=ps) h0 (show e<=s by omega) (show s<=(ps.length:Int) by omega),zol (a:=w) (b:=slice ps e s) om,h]
end
theorem zsJ (s:ByteArray) (f:Int × Int) (want:ByteArray) (w:Int × Int) (h:let w':=if w.1=0∧want.size>4000 then ((3:Int),(-1:Int)) else w
 f=w'∧if w'.1≠0 then s=strOf [] else s=want):Tot (fun n=>zy1 n s f want w) (· =true):=by
 unfold zy1
 simp only at h
 have hb:((strOf []).toList==(strOf []).toList)=true:=zsH
 have hw:∀ x:ByteArray,(x.toList==x.toList)=true:=fun x=>by rw[zuF];exact dtt rfl
 by_cases h0:w.1=0
 ·by_cases h1:want.size>4000
  ·rw[if_pos ⟨h0,h1⟩]at h
   obtain ⟨rfl,rfl⟩:=(show f=(3, -1)∧s=strOf [] from h)
   refine aa (P:=(· =true)) (ai (by simpa using h0) (ad (dtt om))) fun a e=>?_
   subst e
   refine aa (P:=(· =((3:Int),(-1:Int)))) (ad rfl) fun a e=>?_
   subst e
   exact ai rfl (aa (P:=(· =true)) (ai rfl (ad hb)) fun a e=>ad e)
  ·rw[if_neg (fun h=>h1 h.2)]at h
   rw[if_neg (by simpa using h0)]at h
   obtain ⟨rfl,rfl⟩:=h
   refine aa (P:=(· =false)) (ai (by simpa using h0) (ad (dff om))) fun a e=>?_
   subst e
   refine aa (P:=(· =f)) (af rfl (ad rfl)) fun a e=>?_
   subst e
   refine af (by simpa using h0) (aa (P:=(· =true)) (ai (by simp) (ad (hw _))) fun a e=>ad e)
 ·rw[if_neg (fun h=>h0 h.1),if_pos h0]at h
  obtain ⟨rfl,rfl⟩:=h
  refine aa (P:=(· =false)) (af (by simpa using h0) (ad rfl)) fun a e=>?_
  subst e
  refine aa (P:=(· =f)) (af rfl (ad rfl)) fun a e=>?_
  subst e
  exact ai (by simpa using h0) (aa (P:=(· =true)) (ai (by simp) (ad hb)) fun a e=>ad e)
section
variable {p:Pc} {s:ByteArray} {w:Int × Int} (hw:w.1≠0) (hc:∀ i,Tot (fun n=>zzj n p.un s i) (· =w))
include hw hc
theorem All_w:Tot (fun n=>zy4 n p.un s) (· =([],w)):=by
 unfold zy4
 refine aa (hc 0) fun a e=>?_
 subst e
 exact ai (by simpa using hw) (ad rfl)
theorem zoU (t:ByteArray) (most:Int):Tot (fun n=>zyx n p.un s t most) (· =(strOf [],w)):=by
 refine eqf (fun m=>zsr m p.un s t most) (aa (hc 0) fun a e=>?_)
 subst e
 exact ai (by simpa using hw) (ad rfl)
theorem zkV (most:Int):Tot (fun n=>zyU n p.un s most) (· =([],w)):=by
 unfold zyU
 refine aa (hc 0) fun a e=>?_
 subst e
 exact ai (by simpa using hw) (ad rfl)
end
def splO (most:Int) (ps:List Nat):Option (List Sp)->List ByteArray × (Int × Int)
 | none=>([],(21, -1))
 | some l=>(((zqY most ps 0 [] l).1++[slice ps (zqY most ps 0 [] l).2 ps.length]).map S8,(0,0))
section
variable {p:Pc} {s:ByteArray} {ps:List Nat} (ht:TextOk s ps) (hck:Tot (fun n=>zzj n p.un s 0) (· =(0,0)))
include ht hck
theorem zkR {r:Option (List Sp)} (hall:Tot (fun m=>zyw m p.un (zzK ps) (-1)) (· =zjL r)):Tot (fun n=>zy4 n p.un s) (· =zjL r):=by
 unfold zy4
 refine aa hck fun a e=>?_
 subst e
 refine af rfl (am ht.rn (aa hall fun a e=>?_))
 subst e
 cases r<;>exact ad rfl
theorem zn8 {G:Nat} (hG:G<=9) (most:Int) {r:Option (List Sp)} (hr:∀ l,r=some l->Chain G ps.length 0 l∧l.length<=1000) (hall:Tot (fun m=>zyw m p.un (zzK ps) (-1)) (· =zjL r)):Tot (fun n=>zyU n p.un s most) (· =splO most ps r):=by
 unfold zyU
 refine aa hck fun a e=>?_
 subst e
 refine af rfl (am ht.rn (aa hall fun a e=>?_))
 subst e
 cases r with
 | none=>exact ai rfl (ad rfl)
 | some l=>
   obtain ⟨b,d⟩:=hr l rfl
   have f:=(zu5 ht.scal ht.len hG most l d l 0 0 b (ae _) (ae _) om [] rfl [] (an _)).1
   obtain ⟨f0,f1,f2⟩:=zvn (most:=most) (ps:=ps) l 0 0 [] b (ae _) (ae _) om
   refine af rfl (aa (LT.tot f) fun y hy=>?_)
   subst hy
   rw[zzW]
   refine am (zxf f0 f1 (ae _)) ?_
   rw[zvs (zyf ht.scal _ _)]
   refine am (zjM _ (by simp at f2 ⊢;omega)) (ad ?_)
   simp[splO]
end
theorem ztN {ps:List Nat} (hp:∀ c∈ps,Scal c) (g:Sp):∀ {its:List (Nat ⊕ Nat)},(∀ c,.inl c∈its->Scal c)->∀ c∈ztW ps g its,Scal c
 | [],_=>fun c h=>by simp[ztW]at h
 | .inl x::t,hi=>fun c h=>by
   rw[ztW]at h
   rcases ak.1 h with rfl | h
   ·exact hi _ (by simp)
   ·exact ztN hp g (fun c hc=>hi c (aj _ hc)) c h
 | .inr k::t,hi=>fun c h=>by
   rw[ztW]at h
   rcases List.mem_append.1 h with h | h
   ·exact zmV hp g k c h
   ·exact ztN hp g (fun c hc=>hi c (aj _ hc)) c h
theorem zqK {ps:List Nat} (hp:∀ c∈ps,Scal c) {its:List (Nat ⊕ Nat)} (hi:∀ c,.inl c∈its->Scal c):∀ (l:List Sp) (last:Int),∀ c∈zov ps its last l,Scal c
 | [],last=>zyf hp _ _
 | g::t,last=>fun c h=>by
   rw[zov]at h
   rcases List.mem_append.1 h with h | h
   ·exact zyf hp _ _ c h
   ·rcases List.mem_append.1 h with h | h
    ·exact ztN hp g hi c h
    ·exact zqK hp hi t _ c h
theorem zkq {w:List Nat} (h:4000<w.length):4000<(enc w).length:=by have:=zwc w;omega
theorem znI (a b:Int):Tot (fun n=>zz9 n a b) (· =(a,b)):=by unfold zz9;exact ad rfl
theorem zoL {s:ByteArray} {f w:Int × Int} (hw:w.1≠0) (h1:f=w) (h2:s=strOf []):Tot (fun n=>zy1 n s f (strOf []) w) (· =true):=by
 refine zsJ s f (strOf []) w ?_
 simp only
 rw[if_neg (fun h=>hw h.1),if_pos hw]
 exact ⟨h1,h2⟩
theorem zsy {p:Pc} {ps:List Nat} (hl:ps.length<=400) {most:Int} {r:Option (List Sp)} (h:Ev (fnd p ps) ps.length most 0 [] r):∀ l,r=some l->Chain (gr p) ps.length 0 l∧l.length<=1000:=fun l e=>by
 obtain ⟨l',e1,c,n⟩:=zpa h (ae _) om l e
 rw[List.nil_append]at e1
 subst e1
 exact ⟨c,om⟩
def repM (ps:List Nat):Option (List (UInt8 ⊕ Nat))->Option (List Sp)->zic
 | none,_=>(strOf [],(1, -3))
 | some _,none=>(strOf [],(21, -1))
 | some its,some l=>if (zq0 ps its 0 l).length>4000 then (strOf [],(3, -1)) else (strOf (zq0 ps its 0 l),(0,0))
theorem rep_M {G:Nat} {ps:List Nat} {t:List UInt8} (h:validD t=true) (r:Option (List Sp)):zkC G ps t r=repM ps (zw7 G t) r:=by
 unfold zkC
 rw[if_neg (by rw[h];decide)]
 cases zw7 G t with
 | none=>rfl
 | some its=>cases r<;>rfl
theorem zrh {p:Pc} {s tpl:ByteArray} (most:Int) (hb:BdL (zxo p)) (hs:s.size<=1048576) (htp:tpl.size<=1048576):Tot (fun n=>zz6 n p.un s tpl most) (· =true):=by
 unfold zz6
 rcases zqy hb hs with ⟨w,hw,hc,hf⟩ | ⟨f,ps,ht,hf,hc⟩
 ·refine aa (All_w hw hc) fun a e=>?_
  subst e
  refine aa (zoU hw hc tpl most) fun a e=>?_
  subst e
  refine aa (zkV hw hc most) fun a e=>?_
  subst e
  refine aa hf fun a e=>?_
  subst e
  refine aa zrU fun a e=>?_
  subst e
  refine af rfl (ai (by simpa using hw) (aa (P:=(· =true)) ?_ fun a e=>ad e))
  exact ai (by simp) (ai (by simp) (ai (by simp) (ai rfl (ai zsH (ad rfl)))))
 ·have hck:=hc 0
  rw[if_neg om]at hck
  obtain ⟨hT,hG⟩:=ok_T f hb
  obtain ⟨r1,x,ar,az⟩:=znY f hb ht (-1)
  obtain ⟨r2,au,aw,ax⟩:=znY f hb ht most
  refine aa (zkR ht hck ar) fun a e=>?_
  subst e
  refine aa (zqb f hb ht hck htp au aw) fun a e=>?_
  subst e
  refine aa (zn8 ht hck hG most (zsy ht.len x) ar) fun a e=>?_
  subst e
  refine aa hf fun a e=>?_
  subst e
  refine aa zrU fun a e=>?_
  subst e
  refine af rfl (af rfl (aa (znI 21 (-1)) fun a e=>?_))
  subst e
  refine aa az fun a e=>?_
  subst e
  refine aa (P:=(· =false)) ?_ fun a e=>?_
  ·cases r1 with
   | none=>exact ai rfl (af rfl (af rfl (af rfl (ad rfl))))
   | some l=>exact af rfl (ad rfl)
  subst e
  refine af rfl (aa (P:=fun z=>z=Sum.inl ()) ?_ fun a e=>?_)
  ·cases r1 with
   | none=>exact af rfl (ad rfl)
   | some l=>
     obtain ⟨g,k⟩:=zsy ht.len x l rfl
     refine ai rfl (aa (P:=(· =false)) (af rfl (af rfl (ad (by simp[zjL,evO])))) fun a e=>?_)
     subst e
     have v:=(zu5 ht.scal ht.len hG most l k l 0 0 g (ae _) (ae _) om [] rfl [] (an _)).2
     obtain ⟨f0,f1,f2⟩:=zvn (most:=most) (ps:=ps) l 0 0 [] g (ae _) (ae _) om
     refine af rfl (aa (LT.tot (F:=fun m=>znl m (zzK ps) l l most) v) fun y hy=>?_)
     subst hy
     refine Tot.contl ?_
     dsimp only
     rw[zzW]
     have ay:=zxK ps (zqY most ps 0 [] l).2 ps.length
     have av:=ht.len
     refine am (zxf f0 f1 (ae _)) (aa (zvl (zyf ht.scal _ _) om) fun a e=>?_)
     subst e
     refine am (zjM _ (by simp at f2 ⊢;omega)) (aa (zlH (by simp[splO]at f2 ⊢;omega)) fun a e=>?_)
     rw[dtt (by simp[splO])]at e
     subst e
     exact af rfl (ad rfl)
  subst e
  refine Tot.contl ?_
  obtain ⟨_,_,hz,_⟩:=id f
  have a0:=zuI hb hz
  cases b:validD (bytesOf tpl) with
  | false=>
    have q:zkC (gr p) ps (bytesOf tpl) r2=(strOf [],(1, -3)):=by unfold zkC;rw[if_pos b]
    rw[q]
    refine aa (zmy htp b) fun a e=>?_
    subst e
    have v:LT (fun m=>okF m p.un []) (false,0) (· =false):=LT.fin (r:=false) (Tot.alln fun m=>rfl) rfl
    refine aa (LT.tot (F:=fun m=>okF m p.un []) v) fun a e=>?_
    subst e
    refine ai rfl (aa (znI 1 (-3)) fun a e=>?_)
    subst e
    exact aa (zoL ddc rfl rfl) fun a e=>ad e
  | true=>
    obtain ⟨t,u,he⟩:=zrT b
    have ap:tpl=strOf (enc t):=by rw[<- he,zxF]
    have a2:(enc t).length<=1048576:=by rw[ap,zzC]at htp;exact htp
    have hln:=zwc t
    have aq:t.length<=1048576:=by omega
    have a3:=zqf hG t.length t (an _) u
    have q:zkC (gr p) ps (bytesOf tpl) r2=repM ps ((zvo (gr p) t).map znT) r2:=by rw[rep_M b,he,a3]
    rw[q]
    refine aa (P:=(· =(zzK t,true))) (by rw[ap];exact zor u a2) fun a e=>?_
    subst e
    refine aa (LT.tot (F:=fun m=>okF m p.un (zzK t)) (zk9 hG a0 aq t.length t [] (an _) rfl)) fun a e=>?_
    subst e
    cases o:zvo (gr p) t with
    | none=>
      refine ai rfl (aa (znI 1 (-3)) fun a e=>?_)
      subst e
      exact aa (zoL ddc rfl rfl) fun a e=>ad e
    | some its=>
      refine af rfl (aa ax fun a e=>?_)
      subst e
      cases r2 with
      | none=>exact ai rfl (aa (zoL ddc rfl rfl) fun a e=>ad e)
      | some l=>
        obtain ⟨g,k⟩:=zsy ht.len au l rfl
        have j:=zqK ht.scal (its:=its) (fun c hc=>u c ((zwm _ t its (an _) o).2.2 c hc)) l 0
        refine af rfl (aa (LT.tot (F:=fun m=>wrF m (zzK ps) (zzK t) l) (zia ht.len hG aq l k o l 0 g 0 (ae _) (ae _) om [] rfl [] (by simp))) fun y hy=>?_)
        obtain ⟨w,e,rfl,h0,h1,h2,h3⟩:=hy
        rw[List.nil_append]at h3
        dsimp only
        rw[zzW]
        have ay:=zxK ps e ps.length
        have av:=ht.len
        refine am (zxf h0 h1 (ae _)) (am (zol om) ?_)
        have a1:∀ c∈w++slice ps e ps.length,Scal c:=by
         rcases h3 with h3 | h3
         ·rw[h3];exact j
         ·exact fun c hc=>(List.mem_append.1 hc).elim (fun h=>j c (h3.2.2 c h)) (zyf ht.scal _ _ c)
        refine aa (zvl a1 (by rw[ac];omega)) fun a ea=>?_
        subst ea
        refine aa (zsJ _ _ _ _ ?_) fun a e=>ad e
        simp only[Option.map_some,repM,znm,true_and]
        rcases h3 with h3 | ⟨h3,h4,_⟩
        ·rw[h3,zzC]
         by_cases d:(enc (zov ps its 0 l)).length>4000
         ·rw[if_pos d,if_pos d]
          exact ⟨rfl,rfl⟩
         ·rw[if_neg d,if_neg d]
          exact ⟨rfl,rfl⟩
        ·have g1:=zkq h4
         have g2:4000<(enc (w++slice ps e ps.length)).length:=zkq (by rw[ac];omega)
         rw[zzC,if_pos g1,if_pos g2]
         exact ⟨rfl,rfl⟩
theorem RematchReplaces_said (p:PcT) (s t:ByteArray) (i:Int) (_:inK .i64 p.1∧inK .i64 p.2.1∧inK .i64 p.2.2.1∧True∧True∧((∀ x∈p.2.2.2.2.2.1,(fun x=>inK .i64 x.1∧inK .i64 x.2) x)∧p.2.2.2.2.2.1.length<=maxLen)∧((∀ x∈p.2.2.2.2.2.2,(fun _=>True) x)∧p.2.2.2.2.2.2.length<=maxLen)) (_:s.size<=maxLen) (_:t.size<=maxLen) (_:inK .i64 i)
 (hb:(1+(1+(1+(1+(1+(zxE (fun x:Int × Int=>1+1+1) p.2.2.2.2.2.1+zxE mPc p.2.2.2.2.2.2))))))+((s.size+1)+((t.size+1)+1))+1<=1048576):Tot (fun n=>zz6 n p s t i) (· =true):=
 zrh (p:=Pc.of p) i (zkY om) om om
end Go.Gv.M
