import Derived.Test.YtmpmeiihjnnomaaGreatDoorXO
set_option linter.all false
open Bool renaming false_eq_true->aa
open Go.Gv.Tot renaming ret->ab,bindq->ac,if_->al,mono->an
open Nat renaming le_of_lt->ad,le_refl->ai
open List renaming length_append->ae,length_cons->af,length->ag,append_nil->ak,length_set->am
open Int renaming le_refl->aj
namespace Go.Gv.M
open Go Go.Gv Go.Gv.D
abbrev Sp:=List (Int × Int)
abbrev TSt:=List Int × Sp × Int
abbrev RA:=(Bool × TSt) ⊕ Unit
abbrev Eng:=List Int × Int × Bool × Bool
abbrev RB:=Sp × Bool × Eng
abbrev Kt:=Int->TSt->Option RA
theorem w1 {n:Nat} (h:n<=20000):IntKind.i64.wrap ((n:Int)+1)=((n+1:Nat):Int):=by
 rw[IntKind.wrap_i64];omega
def zyu (tx:List Int) (o:Option RA):Option RA:=o.bind (pcase (fun r=>some (.inl (r.1,(tx,r.2.2.1,r.2.2.2)))) (fun p=>some (.inr p)))
set_option maxHeartbeats 4000000
section
variable {n:Nat} (hn:n<20000) (m:Nat) (tx:List Int) (sp:Sp) (k lo hi:Int) (no lz:Bool) (rs:List (Int × Int)) (subs:List Pc) (i:Int) (K:Kt)
theorem zli:zzz (m+1) (tx,sp,20000) (k,lo,hi,no,lz,rs,subs) i K=some (.inr ()):=by
 rw[zzz.eq_2]
 rfl
include hn
theorem h20:decide (((n+1:Nat):Int)>20000)=false:=by simp;omega
theorem zkj {k:Int} (hk:k=1∨k=2∨k=3):zzz (m+1) (tx,sp,n) (k,lo,hi,no,lz,rs,subs) i K=
 (zzZ m (tx,sp,((n+1:Nat):Int)) (k,lo,hi,no,lz,rs,subs) i).bind fun r=>if r then zyu tx (K (IntKind.i64.wrap (i+1)) (tx,sp,((n+1:Nat):Int))) else some (.inl (false,(tx,sp,((n+1:Nat):Int)))):=by
 rw[zzz.eq_2]
 rcases hk with rfl | rfl | rfl<;>simp only[w1 (ad hn),h20 hn,if_true,if_false,Option.bind_some,zyu,beq_self_eq_true,aa,show ((2:Int)==1)=false from rfl,show ((3:Int)==1)=false from rfl,show ((3:Int)==2)=false from rfl]
 all_goals (generalize K _ _=Y;generalize zzZ _ _ _ _=X;rcases X with _ | _ | _<;>rcases Y with _ | _ | _<;>rfl)
theorem ziR:zzz (m+1) (tx,sp,n) (4,lo,hi,no,lz,rs,subs) i K=if (i==0)=true then zyu tx (K i (tx,sp,((n+1:Nat):Int))) else some (.inl (false,(tx,sp,((n+1:Nat):Int)))):=by
 rw[zzz.eq_2]
 simp only[w1 (ad hn),h20 hn,if_true,if_false,Option.bind_some,zyu,beq_self_eq_true,aa,show ((4:Int)==1)=false from rfl,show ((4:Int)==2)=false from rfl,show ((4:Int)==3)=false from rfl]
 generalize K _ _=Y;generalize (i==0)=X;cases X<;>rcases Y with _ | _ | _<;>rfl
theorem zi6:zzz (m+1) (tx,sp,n) (5,lo,hi,no,lz,rs,subs) i K=if (i==((ag tx:Nat):Int))=true then zyu tx (K i (tx,sp,((n+1:Nat):Int))) else some (.inl (false,(tx,sp,((n+1:Nat):Int)))):=by
 rw[zzz.eq_2]
 simp only[w1 (ad hn),h20 hn,if_true,if_false,Option.bind_some,zyu,beq_self_eq_true,aa,show ((5:Int)==1)=false from rfl,show ((5:Int)==2)=false from rfl,show ((5:Int)==3)=false from rfl,show ((5:Int)==4)=false from rfl]
 generalize K _ _=Y;generalize (i==((ag tx:Nat):Int))=X;cases X<;>rcases Y with _ | _ | _<;>rfl
theorem ziO:zzz (m+1) (tx,sp,n) (6,lo,hi,no,lz,rs,subs) i K=(zzR m (tx,sp,((n+1:Nat):Int)) i).bind fun r=>if (!(r==no))=true then zyu tx (K i (tx,sp,((n+1:Nat):Int))) else some (.inl (false,(tx,sp,((n+1:Nat):Int)))):=by
 rw[zzz.eq_2]
 simp only[w1 (ad hn),h20 hn,if_true,if_false,Option.bind_some,zyu,beq_self_eq_true,aa,show ((6:Int)==1)=false from rfl,show ((6:Int)==2)=false from rfl,show ((6:Int)==3)=false from rfl,show ((6:Int)==4)=false from rfl,show ((6:Int)==5)=false from rfl]
 generalize K _ _=Y;generalize zzR _ _ _=X;rcases X with _ | _ | _<;>cases no<;>rcases Y with _ | _ | _<;>rfl
theorem zkz:zzz (m+1) (tx,sp,n) (7,lo,hi,no,lz,rs,subs) i K=zyu tx (zzh m (tx,sp,((n+1:Nat):Int)) (7,lo,hi,no,lz,rs,subs) i K):=by
 rw[zzz.eq_2]
 simp only[w1 (ad hn),h20 hn,if_true,if_false,Option.bind_some,zyu,beq_self_eq_true,aa,show ((7:Int)==1)=false from rfl,show ((7:Int)==2)=false from rfl,show ((7:Int)==3)=false from rfl,show ((7:Int)==4)=false from rfl,show ((7:Int)==5)=false from rfl,show ((7:Int)==6)=false from rfl]
theorem ziP:zzz (m+1) (tx,sp,n) (8,lo,hi,no,lz,rs,subs) i K=zyu tx (zzo m (tx,sp,((n+1:Nat):Int)) subs i K):=by
 rw[zzz.eq_2]
 simp only[w1 (ad hn),h20 hn,if_true,if_false,Option.bind_some,zyu,beq_self_eq_true,aa,show ((8:Int)==1)=false from rfl,show ((8:Int)==2)=false from rfl,show ((8:Int)==3)=false from rfl,show ((8:Int)==4)=false from rfl,show ((8:Int)==5)=false from rfl,show ((8:Int)==6)=false from rfl,show ((8:Int)==7)=false from rfl]
theorem ziy:zzz (m+1) (tx,sp,n) (9,lo,hi,no,lz,rs,subs) i K=zyu tx (zz1 m subs (tx,sp,((n+1:Nat):Int)) i K):=by
 rw[zzz.eq_2]
 simp only[w1 (ad hn),h20 hn,if_true,if_false,Option.bind_some,zyu,beq_self_eq_true,aa,show ((9:Int)==1)=false from rfl,show ((9:Int)==2)=false from rfl,show ((9:Int)==3)=false from rfl,show ((9:Int)==4)=false from rfl,show ((9:Int)==5)=false from rfl,show ((9:Int)==6)=false from rfl,show ((9:Int)==7)=false from rfl,show ((9:Int)==8)=false from rfl]
theorem zkJ:zzz (m+1) (tx,sp,n) (10,lo,hi,no,lz,rs,subs) i K=zyu tx (zzv m (tx,sp,((n+1:Nat):Int)) (10,lo,hi,no,lz,rs,subs) 0 i K):=by
 rw[zzz.eq_2]
 simp only[w1 (ad hn),h20 hn,if_true,if_false,Option.bind_some,zyu,beq_self_eq_true,aa,show ((10:Int)==1)=false from rfl,show ((10:Int)==2)=false from rfl,show ((10:Int)==3)=false from rfl,show ((10:Int)==4)=false from rfl,show ((10:Int)==5)=false from rfl,show ((10:Int)==6)=false from rfl,show ((10:Int)==7)=false from rfl,show ((10:Int)==8)=false from rfl,show ((10:Int)==9)=false from rfl]
theorem zjU:zzz (m+1) (tx,sp,n) (11,lo,hi,no,lz,rs,subs) i K=zyu tx (zzX m (tx,sp,((n+1:Nat):Int)) (11,lo,hi,no,lz,rs,subs) i K):=by
 rw[zzz.eq_2]
 simp only[w1 (ad hn),h20 hn,if_true,if_false,Option.bind_some,zyu,beq_self_eq_true,aa,show ((11:Int)==1)=false from rfl,show ((11:Int)==2)=false from rfl,show ((11:Int)==3)=false from rfl,show ((11:Int)==4)=false from rfl,show ((11:Int)==5)=false from rfl,show ((11:Int)==6)=false from rfl,show ((11:Int)==7)=false from rfl,show ((11:Int)==8)=false from rfl,show ((11:Int)==9)=false from rfl,show ((11:Int)==10)=false from rfl]
theorem zjr:zzz (m+1) (tx,sp,n) (12,lo,hi,no,lz,rs,subs) i K=zyu tx (zyv m (tx,sp,((n+1:Nat):Int)) lo i K):=by
 rw[zzz.eq_2]
 simp only[w1 (ad hn),h20 hn,if_true,if_false,Option.bind_some,zyu,beq_self_eq_true,aa,show ((12:Int)==1)=false from rfl,show ((12:Int)==2)=false from rfl,show ((12:Int)==3)=false from rfl,show ((12:Int)==4)=false from rfl,show ((12:Int)==5)=false from rfl,show ((12:Int)==6)=false from rfl,show ((12:Int)==7)=false from rfl,show ((12:Int)==8)=false from rfl,show ((12:Int)==9)=false from rfl,show ((12:Int)==10)=false from rfl,show ((12:Int)==11)=false from rfl]
end
set_option maxHeartbeats 4000000
def zxv (tx:List Int) (o:Option RB):Option RB:=o.bind fun r=>some (r.1,r.2.1,(tx,r.2.2.2.1,r.2.2.2.2.1,r.2.2.2.2.2))
noncomputable def zho (tx:List Int) (m:Nat) (subs:List Pc) (i:Int) (g:Sp) (r:List Rs) (s:Int × Eng):Option ((Int × Eng) ⊕ (Eng ⊕ ((Sp × Bool × Eng) ⊕ RB))):=
 if (decide (s.1<((ag subs:Nat):Int))) then (idx subs s.1).bind fun x=>(zzy m (tx,s.2.2.1,s.2.2.2.1,s.2.2.2.2) (Pc.un x) i g r).bind fun r149=>(Option.bind (if r149.2.1 then (some (true)) else (some (r149.2.2.2.2.2))) fun (j160:Bool)=>(if j160 then (some (.inr (.inr (.inr ((r149.1,r149.2.1,(tx,r149.2.2.2.1,r149.2.2.2.2.1,r149.2.2.2.2.2))))))) else (some (.inl ((IntKind.i64.wrap (s.1+1)),(tx,r149.2.2.2.1,r149.2.2.2.2.1,r149.2.2.2.2.2)))))) else (some (.inr (.inl (tx,s.2.2.1,s.2.2.2.1,s.2.2.2.2))))
noncomputable def finB (m:Nat) (tx:List Int) (i:Int) (r:List Rs) (s:Sp × Bool × Eng):Option RB:=
 if (!s.2.1)=true then some (([]:Sp),false,(tx,s.2.2.2.1,s.2.2.2.2.1,s.2.2.2.2.2)) else zxv tx (zzx m (tx,s.2.2.2.1,s.2.2.2.2.1,s.2.2.2.2.2) r i s.1)
section
variable {n:Nat} (hn:n<20000) (m:Nat) (tx:List Int) (wh:Bool) (k lo hi:Int) (no lz:Bool) (rs:List (Int × Int)) (subs:List Pc) (i:Int) (g:Sp) (r:List Rs)
theorem zmM:zzy (m+1) (tx,20000,wh,false) (k,lo,hi,no,lz,rs,subs) i g r=some (([]:Sp),false,(tx,20001,wh,true)):=by
 rw[zzy.eq_2]
 rfl
include hn
theorem zlB {k:Int} (hk:k=1∨k=2∨k=3):zzy (m+1) (tx,(n:Int),wh,false) (k,lo,hi,no,lz,rs,subs) i g r=
 (zzE m (tx,((n+1:Nat):Int),wh,false) (k,lo,hi,no,lz,rs,subs) i).bind fun b=>if (!b)=true then some (([]:Sp),false,(tx,((n+1:Nat):Int),wh,false)) else zxv tx (zzx m (tx,((n+1:Nat):Int),wh,false) r (IntKind.i64.wrap (i+1)) g):=by
 rw[zzy.eq_2]
 rcases hk with rfl | rfl | rfl<;>simp only[w1 (ad hn),h20 hn,if_true,if_false,Option.bind_some,beq_self_eq_true,aa,zxv,show ((2:Int)==1)=false from rfl,show ((3:Int)==1)=false from rfl,show ((3:Int)==2)=false from rfl]
theorem zj2:zzy (m+1) (tx,(n:Int),wh,false) (4,lo,hi,no,lz,rs,subs) i g r=if (i==0)=true then zxv tx (zzx m (tx,((n+1:Nat):Int),wh,false) r i g) else some (([]:Sp),false,(tx,((n+1:Nat):Int),wh,false)):=by
 rw[zzy.eq_2]
 simp only[w1 (ad hn),h20 hn,if_true,if_false,Option.bind_some,beq_self_eq_true,aa,zxv,show ((4:Int)==1)=false from rfl,show ((4:Int)==2)=false from rfl,show ((4:Int)==3)=false from rfl,show ((4:Int)==5)=false from rfl,show ((4:Int)==6)=false from rfl,show ((4:Int)==7)=false from rfl,show ((4:Int)==8)=false from rfl,show ((4:Int)==9)=false from rfl,show ((4:Int)==10)=false from rfl,show ((4:Int)==11)=false from rfl,show ((4:Int)==12)=false from rfl]
 generalize (i==0)=X;cases X<;>rfl
theorem ziU:zzy (m+1) (tx,(n:Int),wh,false) (5,lo,hi,no,lz,rs,subs) i g r=if (i==((ag tx:Nat):Int))=true then zxv tx (zzx m (tx,((n+1:Nat):Int),wh,false) r i g) else some (([]:Sp),false,(tx,((n+1:Nat):Int),wh,false)):=by
 rw[zzy.eq_2]
 simp only[w1 (ad hn),h20 hn,if_true,if_false,Option.bind_some,beq_self_eq_true,aa,zxv,show ((5:Int)==1)=false from rfl,show ((5:Int)==2)=false from rfl,show ((5:Int)==3)=false from rfl,show ((5:Int)==4)=false from rfl,show ((5:Int)==6)=false from rfl,show ((5:Int)==7)=false from rfl,show ((5:Int)==8)=false from rfl,show ((5:Int)==9)=false from rfl,show ((5:Int)==10)=false from rfl,show ((5:Int)==11)=false from rfl,show ((5:Int)==12)=false from rfl]
 generalize (i==((ag tx:Nat):Int))=X;cases X<;>rfl
theorem ziD:zzy (m+1) (tx,(n:Int),wh,false) (6,lo,hi,no,lz,rs,subs) i g r=(zyj m tx (IntKind.i64.wrap (i-1))).bind fun a=>(zyj m tx i).bind fun b=>if (!((!(a==b))==no))=true then zxv tx (zzx m (tx,((n+1:Nat):Int),wh,false) r i g) else some (([]:Sp),false,(tx,((n+1:Nat):Int),wh,false)):=by
 rw[zzy.eq_2]
 simp only[w1 (ad hn),h20 hn,if_true,if_false,Option.bind_some,beq_self_eq_true,aa,zxv,show ((6:Int)==1)=false from rfl,show ((6:Int)==2)=false from rfl,show ((6:Int)==3)=false from rfl,show ((6:Int)==4)=false from rfl,show ((6:Int)==5)=false from rfl,show ((6:Int)==7)=false from rfl,show ((6:Int)==8)=false from rfl,show ((6:Int)==9)=false from rfl,show ((6:Int)==10)=false from rfl,show ((6:Int)==11)=false from rfl,show ((6:Int)==12)=false from rfl]
 generalize zyj _ _ (IntKind.i64.wrap (i-1))=A;generalize zyj _ _ i=B;rcases A with _ | _ | _<;>rcases B with _ | _ | _<;>cases no<;>rfl
theorem zke:zzy (m+1) (tx,(n:Int),wh,false) (7,lo,hi,no,lz,rs,subs) i g r=(idx subs 0).bind fun x=>if (lo==0)=true then zxv tx (zzy m (tx,((n+1:Nat):Int),wh,false) (Pc.un x) i g r) else zxv tx (zzy m (tx,((n+1:Nat):Int),wh,false) (Pc.un x) i g [Rs.of (2,([]:List Pc),(7,lo,hi,no,lz,rs,subs),i,0,r)]):=by
 rw[zzy.eq_2]
 simp only[w1 (ad hn),h20 hn,if_true,if_false,Option.bind_some,beq_self_eq_true,aa,zxv,show ((7:Int)==1)=false from rfl,show ((7:Int)==2)=false from rfl,show ((7:Int)==3)=false from rfl,show ((7:Int)==4)=false from rfl,show ((7:Int)==5)=false from rfl,show ((7:Int)==6)=false from rfl,show ((7:Int)==8)=false from rfl,show ((7:Int)==9)=false from rfl,show ((7:Int)==10)=false from rfl,show ((7:Int)==11)=false from rfl,show ((7:Int)==12)=false from rfl]
 generalize idx subs 0=A;rcases A with _ | x
 ·cases (lo==0)<;>rfl
 ·generalize (lo==0)=X;cases X
  ·simp only[Option.bind_some,aa,if_false];generalize zzy _ _ _ _ _ _=Y;cases Y<;>rfl
  ·simp only[Option.bind_some,if_true];generalize zzy _ _ _ _ _ _=Y;cases Y<;>rfl
theorem zhy:zzy (m+1) (tx,(n:Int),wh,false) (8,lo,hi,no,lz,rs,subs) i g r=zxv tx (zzx m (tx,((n+1:Nat):Int),wh,false) [Rs.of (1,subs,(0,0,0,false,false,([]:List (Int × Int)),([]:List Pc)),0,0,r)] i g):=by
 rw[zzy.eq_2]
 simp only[w1 (ad hn),h20 hn,if_true,if_false,Option.bind_some,beq_self_eq_true,aa,zxv,show ((8:Int)==1)=false from rfl,show ((8:Int)==2)=false from rfl,show ((8:Int)==3)=false from rfl,show ((8:Int)==4)=false from rfl,show ((8:Int)==5)=false from rfl,show ((8:Int)==6)=false from rfl,show ((8:Int)==7)=false from rfl,show ((8:Int)==9)=false from rfl,show ((8:Int)==10)=false from rfl,show ((8:Int)==11)=false from rfl,show ((8:Int)==12)=false from rfl]
 generalize zzx _ _ _ _ _=Y;cases Y<;>rfl
theorem zkZ:zzy (m+1) (tx,(n:Int),wh,false) (10,lo,hi,no,lz,rs,subs) i g r=zxv tx (zzl m (tx,((n+1:Nat):Int),wh,false) (10,lo,hi,no,lz,rs,subs) 0 i g r):=by
 rw[zzy.eq_2]
 simp only[w1 (ad hn),h20 hn,if_true,if_false,Option.bind_some,beq_self_eq_true,aa,zxv,show ((10:Int)==1)=false from rfl,show ((10:Int)==2)=false from rfl,show ((10:Int)==3)=false from rfl,show ((10:Int)==4)=false from rfl,show ((10:Int)==5)=false from rfl,show ((10:Int)==6)=false from rfl,show ((10:Int)==7)=false from rfl,show ((10:Int)==8)=false from rfl,show ((10:Int)==9)=false from rfl,show ((10:Int)==11)=false from rfl,show ((10:Int)==12)=false from rfl]
 generalize zzl _ _ _ _ _ _ _=Y;cases Y<;>rfl
theorem ziW:zzy (m+1) (tx,(n:Int),wh,false) (9,lo,hi,no,lz,rs,subs) i g r=((zzf (zho tx m subs i g r) m (0,(tx,((n+1:Nat):Int),wh,false))).bind (zyA fun s=>some (Sum.inr (([]:Sp),false,(tx,s.2.1,s.2.2.1,s.2.2.2))))).bind (zyA (finB m tx i r)):=by
 rw[zzy.eq_2]
 simp only[w1 (ad hn),h20 hn,if_true,if_false,Option.bind_some,beq_self_eq_true,aa,show ((9:Int)==1)=false from rfl,show ((9:Int)==2)=false from rfl,show ((9:Int)==3)=false from rfl,show ((9:Int)==4)=false from rfl,show ((9:Int)==5)=false from rfl,show ((9:Int)==6)=false from rfl,show ((9:Int)==7)=false from rfl,show ((9:Int)==8)=false from rfl,show ((9:Int)==10)=false from rfl,show ((9:Int)==11)=false from rfl,show ((9:Int)==12)=false from rfl]
 rfl
theorem zkT:zzy (m+1) (tx,(n:Int),wh,false) (11,lo,hi,no,lz,rs,subs) i g r=(idx subs 0).bind fun x=>(zzy m (tx,((n+1:Nat):Int),wh,false) (Pc.un x) i g [Rs.of (0,([]:List Pc),(0,0,0,false,false,([]:List (Int × Int)),([]:List Pc)),0,1,([]:List Rs))]).bind fun y=>
 if (if y.2.2.2.2.2=true then true else (y.2.1==no))=true then some (([]:Sp),false,(tx,y.2.2.2.1,y.2.2.2.2.1,y.2.2.2.2.2)) else
  (if (!no)=true then (idx g 0).bind fun a=>zzg m y.1 0 a.1 a.2 else some g).bind fun g'=>zxv tx (zzx m (tx,y.2.2.2.1,y.2.2.2.2.1,y.2.2.2.2.2) r i g'):=by
 rw[zzy.eq_2]
 simp only[w1 (ad hn),h20 hn,if_true,if_false,Option.bind_some,beq_self_eq_true,aa,show ((11:Int)==1)=false from rfl,show ((11:Int)==2)=false from rfl,show ((11:Int)==3)=false from rfl,show ((11:Int)==4)=false from rfl,show ((11:Int)==5)=false from rfl,show ((11:Int)==6)=false from rfl,show ((11:Int)==7)=false from rfl,show ((11:Int)==8)=false from rfl,show ((11:Int)==9)=false from rfl,show ((11:Int)==10)=false from rfl,show ((11:Int)==12)=false from rfl]
 generalize idx subs 0=A
 rcases A with _ | x
 ·rfl
 ·simp only[Option.bind_some]
  generalize zzy m _ _ i g _=Y
  rcases Y with _ | ⟨y1,y2,y3,y4,y5,y6⟩
  ·rfl
  ·simp only[Option.bind_some]
   cases y6
   ·cases (y2==no)
    ·cases no
     ·simp only[if_true,Bool.not_false,Option.bind_some,if_false,aa]
      generalize idx g 0=B
      rcases B with _ | b
      ·rfl
      ·simp only[Option.bind_some]
       generalize zzg m _ _ _ _=C
       rcases C with _ | c<;>rfl
     ·rfl
    ·rfl
   ·rfl
theorem zjl:zzy (m+1) (tx,(n:Int),wh,false) (12,lo,hi,no,lz,rs,subs) i g r=(idx g lo).bind fun a=>(if (decide (a.1<0))=true then some true else if (decide ((IntKind.i64.wrap ((IntKind.i64.wrap (i+a.2))-a.1))>((ag tx:Nat):Int)))=true then some true else (sub tx a.1 a.2).bind fun u=>(sub tx i (IntKind.i64.wrap ((IntKind.i64.wrap (i+a.2))-a.1))).bind fun v=>(zxk m u v).bind fun b=>some (!b)).bind fun j=>
 if j=true then some (([]:Sp),false,(tx,((n+1:Nat):Int),wh,false)) else zxv tx (zzx m (tx,((n+1:Nat):Int),wh,false) r (IntKind.i64.wrap ((IntKind.i64.wrap (i+a.2))-a.1)) g):=by
 rw[zzy.eq_2]
 simp only[w1 (ad hn),h20 hn,if_true,if_false,Option.bind_some,beq_self_eq_true,aa,show ((12:Int)==1)=false from rfl,show ((12:Int)==2)=false from rfl,show ((12:Int)==3)=false from rfl,show ((12:Int)==4)=false from rfl,show ((12:Int)==5)=false from rfl,show ((12:Int)==6)=false from rfl,show ((12:Int)==7)=false from rfl,show ((12:Int)==8)=false from rfl,show ((12:Int)==9)=false from rfl,show ((12:Int)==10)=false from rfl,show ((12:Int)==11)=false from rfl]
 generalize idx g lo=A
 rcases A with _ | a
 ·rfl
 ·simp only[Option.bind_some]
  generalize (if (decide (a.1<0))=true then some true else _:Option Bool)=C
  rcases C with _ | _ | _
  ·rfl
  ·simp only[Option.bind_some,aa,if_false]
   generalize zzx _ _ _ _ _=Y
   cases Y<;>rfl
  ·rfl
end
theorem suc {α:Type} {f:Nat->Option α} {Q:α->Prop} (h:Tot (fun n=>f (n+1)) Q):Tot f Q:=by
 obtain ⟨a,ha,N,hN⟩:=h
 refine ⟨a,ha,N+1,fun n hn=>?_⟩
 obtain ⟨k,rfl⟩:∃ k,n=k+1:=⟨n-1,om⟩
 exact hN k om
theorem shf {α:Type} {f:Nat->Option α} {Q:α->Prop} (h:Tot f Q):Tot (fun n=>f (n+1)) Q:=by
 obtain ⟨a,ha,N,hN⟩:=h
 exact ⟨a,ha,N,fun n hn=>hN (n+1) om⟩
theorem eqf {α:Type} {f g:Nat->Option α} {Q:α->Prop} (e:∀ n,f n=g n) (h:Tot g Q):Tot f Q:=by
 rw[show f=g from funext e];exact h
inductive Res where
 | over
 | no (n:Nat)
 | yes (g:Sp) (n:Nat)
def E1 (a b:Sp):Prop:=a.length=b.length∧∀ j:Nat,1<=j->a[j]? =b[j]?
theorem E1.refl (a:Sp):E1 a a:=⟨rfl,fun _ _=>rfl⟩
def Wf (G L:Nat) (g:Sp):Prop:=g.length=G+1∧∀ (j:Nat) (x:Int × Int),1<=j->g[j]? =some x->x.1<0∨(0<=x.1∧x.1<=x.2∧x.2<=(L:Int))
def PA (tx:List Int) (Q:Sp->Sp->Prop) (g:Sp):Res->RA->Prop
 | .over,r=>r= .inr ()
 | .no n,r=>∃ sp,r= .inl (false,(tx,sp,(n:Int)))∧E1 sp g
 | .yes g' n,r=>∃ sp,r= .inl (true,(tx,sp,(n:Int)))∧Q sp g'
def PB (tx:List Int) (wh:Bool):Res->RB->Prop
 | .over,r=>r.2.1=false∧∃ t,r.2.2=(tx,t,wh,true)
 | .no n,r=>r.2=(false,(tx,(n:Int),wh,false))
 | .yes g n,r=>r=(g,true,(tx,(n:Int),wh,false))
def okR (G L n:Nat):Res->Prop
 | .over=>True
 | .no n'=>n<=n'∧n'<=20000
 | .yes g n'=>n<=n'∧n'<=20000∧Wf G L g
theorem okR.le {G L n m:Nat} {o:Res} (h:okR G L n o) (hm:m<=n):okR G L m o:=by
 cases o with
 | over=>trivial
 | no n'=>exact ⟨Nat.le_trans hm h.1,h.2⟩
 | yes g n'=>exact ⟨Nat.le_trans hm h.1,h.2⟩
theorem zzd {tx:List Int} {Q:Sp->Sp->Prop} {g:Sp} {o:Res} {F:Nat->Option RA} (h:Tot F (PA tx Q g o)):Tot (fun m=>zyu tx (F m)) (PA tx Q g o):=by
 refine ac h fun r hr=>?_
 cases o with
 | over=>cases hr;exact ab rfl
 | no n=>obtain ⟨sp,rfl,h1⟩:=hr;exact ab ⟨sp,rfl,h1⟩
 | yes g' n=>obtain ⟨sp,rfl,h1⟩:=hr;exact ab ⟨sp,rfl,h1⟩
theorem zz5 {tx:List Int} {wh:Bool} {o:Res} {F:Nat->Option RB} (h:Tot F (PB tx wh o)):Tot (fun m=>zxv tx (F m)) (PB tx wh o):=by
 refine ac h fun r hr=>?_
 cases o with
 | over=>obtain ⟨a,b,c⟩:=r;obtain ⟨h1,t,h2⟩:=hr;simp only at h1 h2;subst h1;subst h2;exact ab ⟨rfl,t,rfl⟩
 | no n=>obtain ⟨a,b,c⟩:=r;cases hr;exact ab rfl
 | yes g' n=>cases hr;exact ab rfl
def Rel (tx:List Int) (wh:Bool) (G:Nat) (Q:Sp->Sp->Prop) (n0:Nat) (i0:Int) (K:Nat->Kt) (r:List Rs):Prop:=
 ∀ (n:Nat) (i:Int) (sp g:Sp),n0<=n->n<=20000->i0<=i->i<=(tx.length:Int)->E1 sp g->Wf G tx.length g->
   ∃ o,okR G tx.length n o∧Tot (fun m=>K m i (tx,sp,(n:Int))) (PA tx Q g o)∧Tot (fun m=>zzx m (tx,(n:Int),wh,false) r i g) (PB tx wh o)
theorem Rel.up {tx:List Int} {wh:Bool} {G:Nat} {Q:Sp->Sp->Prop} {n0 n1:Nat} {i0 i1:Int} {K:Nat->Kt} {r:List Rs} (h:Rel tx wh G Q n0 i0 K r) (hn:n0<=n1) (hi:i0<=i1):Rel tx wh G Q n1 i1 K r:=
 fun n i sp g h1 h2 h3=>h n i sp g (Nat.le_trans hn h1) h2 (Int.le_trans hi h3)
theorem Rel.suc {tx:List Int} {wh:Bool} {G:Nat} {Q:Sp->Sp->Prop} {n0:Nat} {i0:Int} {K:Nat->Kt} {r:List Rs} (h:Rel tx wh G Q n0 i0 K r):Rel tx wh G Q n0 i0 (fun m=>K (m+1)) r:=fun n i sp g h1 h2 h3 h4 h5 h6=>by
 obtain ⟨o,ho,hA,hB⟩:=h n i sp g h1 h2 h3 h4 h5 h6
 exact ⟨o,ho,shf hA,hB⟩
def zrl (tx:List Int) (G:Nat) (ok:Pc->Prop) (n:Nat):Prop:=
 ∀ (wh:Bool) (Q:Sp->Sp->Prop) (p:Pc) (i:Int) (sp g:Sp) (K:Nat->Kt) (r:List Rs),ok p->0<=i->i<=(tx.length:Int)->E1 sp g->Wf G tx.length g->Rel tx wh G Q (n+1) i K r->
   ∃ o,okR G tx.length (n+1) o∧Tot (fun m=>zzz m (tx,sp,(n:Int)) p.un i (K m)) (PA tx Q g o)∧Tot (fun m=>zzy m (tx,(n:Int),wh,false) p.un i g r) (PB tx wh o)
abbrev Z7:PcT:=(0,0,0,false,false,([]:List (Int × Int)),([]:List Pc))
theorem zjE (t:RsT):Rs.un (Rs.of t)=t:=(Eq.refl t).trans (Eq.refl t)
theorem zph {α:Type} (x:α) (t:List α):idx (x::t) 0=some x:=by simp[idx]
theorem sub1 {α:Type} (x:α) (t:List α):sub (x::t) 1 (((x::t).length:Nat):Int)=some t:=by
 unfold sub
 rw[if_pos oss]
 simp
section
variable (m:Nat) (tx:List Int) (sp:Sp) (n:Int) (i:Int) (K:Kt)
theorem zmU:zzo (m+1) (tx,sp,n) [] i K=zyu tx (K i (tx,sp,n)):=by
 rw[zzo.eq_2];rfl
theorem znu (x:Pc) (t:List Pc):zzo (m+1) (tx,sp,n) (x::t) i K=zyu tx (zzz m (tx,sp,n) x.un i (fun i st=>zzq m i (tx,st.2.1,st.2.2) (x::t) K)):=by
 rw[zzo.eq_2]
 rw[show (((((x::t).length:Nat):Int)==0))=false by simp;omega]
 simp only[aa,if_false,zph,Option.bind_some,zyu]
theorem row1A (x:Pc) (t:List Pc):zzq (m+1) i (tx,sp,n) (x::t) K=zyu tx (zzo m (tx,sp,n) t i K):=by
 rw[zzq.eq_2]
 simp only[sub1,Option.bind_some,zyu]
variable (g:Sp) (e:Int × Bool × Bool) (st ro:Int) (pc:PcT) (r:List Rs)
theorem zkN:zzx (m+1) (tx,e) [Rs.of (1,[],pc,st,ro,r)] i g=zxv tx (zzx m (tx,e) r i g):=by
 rw[zzx.eq_2]
 simp only[zph,Option.bind_some,zjE]
 rfl
theorem zlo (x:Pc) (t:List Pc):zzx (m+1) (tx,e) [Rs.of (1,x::t,pc,st,ro,r)] i g=zxv tx (zzy m (tx,e) x.un i g [Rs.of (1,t,Z7,0,0,r)]):=by
 rw[zzx.eq_2]
 simp only[zph,Option.bind_some,zjE,beq_self_eq_true,if_true,sub1]
 simp only[show (((((x::t).length:Nat):Int)==0))=false by simp;omega]
 rfl
theorem goB_2 (pa:List Pc):zzx (m+1) (tx,e) [Rs.of (2,pa,pc,st,ro,r)] i g=(zzg m g pc.2.1 st i).bind fun g'=>zxv tx (zzx m (tx,e) r i g'):=by
 rw[zzx.eq_2]
 simp only[zph,Option.bind_some,zjE]
 rfl
theorem zhv (pa:List Pc):zzx (m+1) (tx,e) [Rs.of (3,pa,pc,st,ro,r)] i g=if (if (i==st)=true then decide (ro>pc.2.1) else false)=true then some (([]:Sp),false,(tx,e)) else zxv tx (zzl m (tx,e) pc ro i g r):=by
 rw[zzx.eq_2]
 simp only[zph,Option.bind_some,zjE]
 cases (i==st)
 ·rfl
 ·cases decide (ro>pc.2.1)<;>rfl
theorem zjh (pa:List Pc):zzx (m+1) (tx,e) [Rs.of (0,pa,pc,st,ro,r)] i g=if (e.2.1&&((ro==0)&&(i !=((tx.length:Nat):Int))))=true then some (([]:Sp),false,(tx,e)) else (zzg m g 0 0 i).bind fun g'=>some (g',true,(tx,e)):=by
 rw[zzx.eq_2]
 simp only[zph,Option.bind_some,zjE]
 obtain ⟨a,wh,c⟩:=e
 cases wh
 ·rfl
 ·simp only[if_true]
  cases (ro==0)<;>rfl
end
end Go.Gv.M
namespace Go.Gv.M
open Go Go.Gv Go.Gv.D Go.Gv.X Go.Gv.R Go.Gv.P
set_option maxHeartbeats 4000000
theorem zno {tx:List Int} {wh:Bool} {G:Nat} {Q:Sp->Sp->Prop} {ok:Pc->Prop} {n0:Nat} (hT:∀ n,n0<=n->n<=20000->zrl tx G ok n):∀ (l:List Pc),(∀ x∈l,ok x)->∀ (K:Nat->Kt) (r:List Rs) (pc:PcT) (st ro:Int) (i0:Int),0<=i0->Rel tx wh G Q n0 i0 K r->
 Rel tx wh G Q n0 i0 (fun m i st=>zzo m st l i (K m)) [Rs.of (1,l,pc,st,ro,r)]
 | [],_,K,r,pc,st,ro,i0,h0,hK=>fun n i sp g h1 h2 h3 h4 h5 h6=>by
   obtain ⟨o,ho,hA,hB⟩:=hK n i sp g h1 h2 h3 h4 h5 h6
   exact ⟨o,ho,suc (eqf (fun m=>zmU m tx sp n i (K (m+1))) (zzd (shf hA))),suc (eqf (fun m=>zkN m tx i g _ st ro pc r) (zz5 hB))⟩
 | x::t,hl,K,r,pc,st,ro,i0,h0,hK=>fun n i sp g h1 h2 h3 h4 h5 h6=>by
   have ih:=zno hT t (fun y hy=>hl y (List.mem_cons_of_mem _ hy)) (fun m=>K (m+2)) r Z7 0 0 i0 h0 hK.suc.suc
   obtain ⟨o,ho,hA,hB⟩:=hT n h1 h2 wh Q x i sp g (fun m i st=>zzq m i (tx,st.2.1,st.2.2) (x::t) (K (m+1))) [Rs.of (1,t,Z7,0,0,r)] (hl x (by simp)) (Int.le_trans h0 h3) h4 h5 h6 (fun n' i' b g' k1 k2 k3 k4 k5 k6=>by
    obtain ⟨o,ho,hA,hB⟩:=ih n' i' b g' om k2 (Int.le_trans h3 k3) k4 k5 k6
    exact ⟨o,ho,suc (eqf (fun m=>row1A m tx b n' i' (K (m+2)) x t) (zzd hA)),hB⟩)
   exact ⟨o,ho.le (Nat.le_succ n),suc (eqf (fun m=>znu m tx sp n i (K (m+1)) x t) (zzd hA)),suc (eqf (fun m=>zlo m tx i g _ st ro pc r x t) (zz5 hB))⟩
def inR (c:Int) (rs:List (Int × Int)):Bool:=rs.any fun x=>decide (x.1<=c)&&decide (c<=x.2)
def zjR (tx:List Int) (x:PcT) (i:Int):Bool:=match idx tx i with
 | none=>false
 | some c=>if (x.1==1)=true then c==x.2.1 else if (x.1==2)=true then c !=10 else !(inR c x.2.2.2.2.2.1==x.2.2.2.1)
def BigR:Nat:=4000000000000000000
noncomputable def zj7 (rs:List (Int × Int)) (c:Int) (n:Nat) (s4:Int):Option (Int ⊕ (Unit ⊕ Int)):=if (decide (s4<((ag rs:Nat):Int))) then (Option.bind (idx rs s4) fun x10=>(Option.bind (zzV n (x10.1,x10.2) c) fun r13=>(if r13 then (some (.inr (.inr (s4)))) else (some (.inl (IntKind.i64.wrap (s4+1))))))) else (some (.inr (.inl ())))
theorem zjv (n:Nat) (x:Int × Int) (c:Int):zzV n (x.1,x.2) c=some (decide (x.1<=c)&&decide (c<=x.2)):=by
 unfold zzV
 by_cases h:x.1<=c
 ·rw[if_pos (dtt (show c>=x.1 from h)),dtt h];rfl
 ·rw[if_neg (by rw[dff (show ¬ c>=x.1 from h)];decide),dff h];rfl
theorem zpW (c:Int) (x:Int × Int) (r:List (Int × Int)):inR c (x::r)=((decide (x.1<=c)&&decide (c<=x.2))||inR c r):=rfl
theorem zn2 {rs:List (Int × Int)} (hl:rs.length<=BigR) (c:Int):∀ (rest pre:List (Int × Int)),rs=pre++rest->LT (zj7 rs c) (pre.length:Int) (fun y=>(inR c rest=true∧∃ i:Int,0<=i∧y= .inr i)∨(inR c rest=false∧y= .inl ()))
 | [],pre,e=>by
   refine LT.fin (Tot.alln fun n=>?_) (.inr ⟨rfl,rfl⟩)
   unfold zj7
   rw[if_neg]
   rw[e,ak,dff om];decide
 | x::rest,pre,e=>by
   have d:=hl
   unfold BigR at d
   rw[e,ae,af]at d
   have b:∀ n,zj7 rs c n (pre.length:Int)=if (decide (x.1<=c)&&decide (c<=x.2))=true then some (.inr (.inr (pre.length:Int))) else some (.inl ((pre.length+1:Nat):Int)):=fun n=>by
    unfold zj7
    rw[if_pos (dtt (by rw[e,ae,af];omega))]
    rw[show idx rs (pre.length:Int)=some x by rw[e];exact zzL pre x rest rfl]
    simp only[Option.bind_some,zjv]
    rw[zzw (x:=(pre.length:Int)+1) om om]
    rfl
   rw[zpW]
   cases h:(decide (x.1<=c)&&decide (c<=x.2))
   ·have ih:=zn2 hl c rest (pre++[x]) (by rw[e];simp)
    rw[show (((pre++[x]).length:Nat):Int)=((pre.length+1:Nat):Int) by simp]at ih
    rw[Bool.false_or]
    exact LT.step (Tot.alln fun n=>by rw[b,h];rfl) ih
   ·exact LT.fin (Tot.alln fun n=>by rw[b,h];rfl) (.inl ⟨rfl,(pre.length:Int),om,rfl⟩)
theorem zso {rs:List (Int × Int)} (hl:rs.length<=BigR) (c:Int):Tot (fun n=>zzr n rs c) (· =inR c rs):=by
 unfold zzr zze
 refine ac (P:=fun r=>decide (r>=0)=inR c rs) (ac (LT.tot (F:=zj7 rs c) (zn2 hl c rs [] rfl)) fun y hy=>?_) fun a e=>ab e
 rcases hy with ⟨h1,i,h2,rfl⟩ | ⟨h1,rfl⟩
 ·exact ab (by rw[h1];exact dtt h2)
 ·exact ab (by rw[h1];rfl)
def ziN (rs:List (Int × Int)) (c:Int) (s17:Bool × Int):Option ((Bool × Int) ⊕ Bool):=(if (decide (s17.2<((ag rs:Nat):Int))) then (Option.bind (if s17.1 then (some (true)) else (Option.bind (idx rs s17.2) fun x27=>(if (decide (c>=x27.1)) then (Option.bind (idx rs s17.2) fun x31=>(some ((decide (c<=x31.2))))) else (some (false))))) fun (j24:Bool)=>(some (.inl (j24,(IntKind.i64.wrap (s17.2+1)))))) else (some (.inr (s17.1))))
theorem zoX {rs:List (Int × Int)} (hl:rs.length<=BigR) (c:Int):∀ (rest pre:List (Int × Int)) (b:Bool),rs=pre++rest->LT (fun _=>ziN rs c) (b,(pre.length:Int)) (· =(b||inR c rest))
 | [],pre,b,e=>by
   refine LT.fin (r:=b) (Tot.alln fun n=>?_) (by simp[inR])
   unfold ziN
   rw[if_neg]
   rw[e,ak,dff (by simp)];decide
 | x::rest,pre,b,e=>by
   have d:=hl
   unfold BigR at d
   rw[e,ae,af]at d
   have hx:idx rs (pre.length:Int)=some x:=by rw[e];exact zzL pre x rest rfl
   have f:ziN rs c (b,(pre.length:Int))=some (.inl (b||(decide (x.1<=c)&&decide (c<=x.2)),((pre.length+1:Nat):Int))):=by
    unfold ziN
    rw[if_pos (dtt (by rw[e,ae,af];simp only;omega))]
    simp only[hx,Option.bind_some]
    rw[zzw (x:=(pre.length:Int)+1) om om]
    cases b
    ·by_cases h:x.1<=c
     ·rw[if_neg ddc,if_pos (dtt (show c>=x.1 from h)),dtt h];rfl
     ·rw[if_neg ddc,if_neg (by rw[dff (show ¬ c>=x.1 from h)];decide),dff h];rfl
    ·rfl
   have ih:=zoX hl c rest (pre++[x]) (b||(decide (x.1<=c)&&decide (c<=x.2))) (by rw[e];simp)
   rw[show (((pre++[x]).length:Nat):Int)=((pre.length+1:Nat):Int) by simp]at ih
   rw[zpW,<- Bool.or_assoc]
   exact LT.step (Tot.alln fun n=>f) ih
def zjG (tx:List Int):Prop:=∀ c∈tx, -2000000<=c∧c<=2000000
theorem ztq {α:Type} {l:List α} {i:Int} (h0:0<=i) (h1:i<(l.length:Int)):∃ x,idx l i=some x∧x∈l:=by
 obtain ⟨q,rfl⟩:∃ q:Nat,i=q:=⟨i.toNat,om⟩
 have hq:q<l.length:=by omega
 refine ⟨l[q],?_,List.getElem_mem hq⟩
 unfold idx
 rw[if_pos h0,Int.toNat_natCast]
 exact List.getElem?_eq_getElem hq
theorem zwM {α:Type} {l:List α} {i:Int} (h:(l.length:Int)<=i):idx l i=none:=by
 unfold idx
 rw[if_pos om]
 exact List.getElem?_eq_none om
theorem zoi {α:Type} {l:List α} {i:Int} (h:i<0):idx l i=none:=by unfold idx;rw[if_neg om]
theorem zpC {tx:List Int} (ht:zjG tx) {x:PcT} (hl:x.2.2.2.2.2.1.length<=BigR) {i:Int} (h0:0<=i) (sp:Sp) (n:Int):Tot (fun m=>zzZ m (tx,sp,n) x i) (· =zjR tx x i):=by
 unfold zzZ zjR
 by_cases h:(tx.length:Int)<=i
 ·exact Tot.it (dtt h) (ab (by rw[zwM h]))
 ·obtain ⟨c,hc,hm⟩:=ztq h0 (show i<(tx.length:Int) by omega)
  have hr:=ht c hm
  refine al (dff h) (Tot.bind0 hc ?_)
  rw[hc,zzw (x:=c) om om]
  simp only
  refine Tot.ite (fun h1=>ab (by rw[if_pos h1])) fun h1=>?_
  rw[if_neg (by rw[h1];decide)]
  refine Tot.ite (fun h2=>ab (by rw[if_pos h2])) fun h2=>?_
  rw[if_neg (by rw[h2];decide)]
  exact ac (zso hl c) fun a e=>ab (by rw[e])
theorem zmh {tx:List Int} {x:PcT} (hl:x.2.2.2.2.2.1.length<=BigR) {i:Int} (h0:0<=i) (e:Int × Bool × Bool):Tot (fun m=>zzE m (tx,e) x i) (· =zjR tx x i):=by
 unfold zzE zjR
 by_cases h:(tx.length:Int)<=i
 ·exact Tot.it (dtt h) (ab (by rw[zwM h]))
 ·obtain ⟨c,hc,hm⟩:=ztq h0 (show i<(tx.length:Int) by omega)
  refine al (dff h) (Tot.bind0 hc ?_)
  rw[hc]
  simp only
  refine Tot.ite (fun h1=>ab (by rw[if_pos h1])) fun h1=>?_
  rw[if_neg (by rw[h1];decide)]
  refine Tot.ite (fun h2=>ab (by rw[if_pos h2])) fun h2=>?_
  rw[if_neg (by rw[h2];decide)]
  exact ac (LT.tot (F:=fun _=>ziN x.2.2.2.2.2.1 c) (zoX hl c x.2.2.2.2.2.1 [] false rfl)) fun a e=>ab (by rw[e,Bool.false_or])
def zjz (c:Int):Bool:=(if (decide (c>=48)) then ((decide (c<=57))||(if (decide (c>=65)) then ((decide (c<=90))||(if (decide (c>=97)) then ((decide (c<=122))||(c==95)) else (c==95))) else (if (decide (c>=97)) then ((decide (c<=122))||(c==95)) else (c==95)))) else (if (decide (c>=65)) then ((decide (c<=90))||(if (decide (c>=97)) then ((decide (c<=122))||(c==95)) else (c==95))) else (if (decide (c>=97)) then ((decide (c<=122))||(c==95)) else (c==95))))
def zvZ (tx:List Int) (i:Int):Bool:=match idx tx i with
 | none=>false
 | some c=>zjz c
theorem zrf (m:Nat) (tx:List Int) (i:Int):zyj m tx i=some (zvZ tx i):=by
 unfold zyj zvZ
 by_cases h:0<=i∧i<(tx.length:Int)
 ·obtain ⟨c,hc,_⟩:=ztq h.1 h.2
  rw[if_neg (by rw[dff (show ¬ i<0 by omega),dff (show ¬ i>=(tx.length:Int) by omega)];decide),hc]
  rfl
 ·have hn:idx tx i=none:=by
   by_cases h1:i<0
   ·exact zoi h1
   ·exact zwM om
  rw[if_pos,hn]
  by_cases h1:i<0
  ·rw[dtt h1];rfl
  ·rw[dtt (show i>=(tx.length:Int) by omega),Bool.or_true]
theorem zk3 (m:Nat) {tx:List Int} (sp:Sp) (n:Int) {i:Int} (h0:0<=i) (h1:i<=(tx.length:Int)) (hL:tx.length<=1000):zzR m (tx,sp,n) i=some (!(zvZ tx (i-1)==zvZ tx i)):=by
 have hi:(if decide (i<(tx.length:Int))=true then (idx tx i).bind fun c=>some (zjz c) else some false:Option Bool)=some (zvZ tx i):=by
  unfold zvZ
  by_cases h:i<(tx.length:Int)
  ·obtain ⟨c,hc,_⟩:=ztq h0 h
   rw[if_pos (dtt h),hc];rfl
  ·rw[if_neg (by rw[dff h];decide),zwM om]
 unfold zzR zy8
 by_cases h:i>0
 ·obtain ⟨c,hc,_⟩:=ztq (l:=tx) (i:=i-1) om om
  have hw:zvZ tx (i-1)=zjz c:=by unfold zvZ;rw[hc]
  rw[if_pos (dtt h)]
  simp only
  rw[zzw (x:=i-1) om om,hc,hw]
  by_cases h2:i<(tx.length:Int)
  ·obtain ⟨d,hd,_⟩:=ztq h0 h2
   simp only[Option.bind_some,if_pos (dtt h2),hd]
   unfold zvZ;rw[hd];rfl
  ·simp only[Option.bind_some,if_neg (show ¬ decide (i<(tx.length:Int))=true by rw[dff h2];decide)]
   unfold zvZ;rw[zwM (show (tx.length:Int)<=i by omega)];rfl
 ·have hz:i=0:=by omega
  have hw:zvZ tx (i-1)=false:=by unfold zvZ;rw[zoi (show i-1<0 by omega)]
  rw[if_neg (by rw[dff h];decide),hw]
  by_cases h2:i<(tx.length:Int)
  ·obtain ⟨d,hd,_⟩:=ztq h0 h2
   simp only[Option.bind_some,if_pos (dtt h2),hd]
   unfold zvZ;rw[hd];rfl
  ·simp only[Option.bind_some,if_neg (show ¬ decide (i<(tx.length:Int))=true by rw[dff h2];decide)]
   unfold zvZ;rw[zwM (show (tx.length:Int)<=i by omega)]
structure OkN (G:Nat) (x:PcT):Prop where
 kind:1<=x.1∧x.1<=12
 rng:x.2.2.2.2.2.1.length<=BigR
 sbs:x.2.2.2.2.2.2.length<=BigR
 g7:x.1=7->0<=x.2.1∧x.2.1<=(G:Int)∧x.2.2.2.2.2.2≠[]
 g10:x.1=10∨x.1=11->x.2.2.2.2.2.2≠[]
 g12:x.1=12->1<=x.2.1∧x.2.1<=(G:Int)
def okT (G:Nat) (p:Pc):Prop:=∀ q∈zxo p,OkN G q.un
theorem zpd {x q:Pc}:∀ {l:List Pc},x∈l->q∈zxo x->q∈preL l
 | y::l,h,hq=>by
   rw[preL]
   rcases List.mem_cons.1 h with rfl | h
   ·exact List.mem_append_left _ hq
   ·exact List.mem_append_right _ (zpd h hq)
theorem zmD {G:Nat} {p:Pc} (h:okT G p):OkN G p.un:=h p (by cases p;rw[zxo];exact List.mem_cons_self)
theorem zk4 {G:Nat} {k lo hi:Int} {no lz:Bool} {rs:List (Int × Int)} {subs:List Pc} (h:okT G (.mk k lo hi no lz rs subs)):∀ x∈subs,okT G x:=fun x hx q hq=>h q (by rw[zxo];exact List.mem_cons_of_mem _ (zpd hx hq))
theorem zuR {α:Type} {l:List α} {j:Nat} (h:j<l.length) (x:α):upd l (j:Int) x=some (l.set j x):=by
 unfold upd
 rw[if_pos om,Int.toNat_natCast]
theorem idx_nat {α:Type} {l:List α} {j:Nat}:idx l (j:Int)=l[j]?:=by
 unfold idx
 rw[if_pos om,Int.toNat_natCast]
theorem E1.set {a b:Sp} (h:E1 a b) (j:Nat) (x:Int × Int):E1 (a.set j x) (b.set j x):=by
 refine ⟨by simp[h.1],fun q hq=>?_⟩
 rw[List.getElem?_set,List.getElem?_set,h.1,h.2 q hq]
theorem E1.trans {a b c:Sp} (h:E1 a b) (h':E1 b c):E1 a c:=⟨h.1.trans h'.1,fun j hj=>(h.2 j hj).trans (h'.2 j hj)⟩
theorem E1.symm {a b:Sp} (h:E1 a b):E1 b a:=⟨h.1.symm,fun j hj=>(h.2 j hj).symm⟩
theorem E1.back {a b:Sp} {j:Nat} {x y:Int × Int} (h:E1 a (b.set j x)) (hy:b[j]? =some y):E1 (a.set j y) b:=by
 refine ⟨by simp[h.1],fun q hq=>?_⟩
 have h1:=h.1
 rw[am]at h1
 rw[List.getElem?_set]
 by_cases d:j=q
 ·subst d
  have hlt:=(List.getElem?_eq_some_iff.1 hy).1
  rw[if_pos rfl,if_pos om,hy]
 ·rw[if_neg d,h.2 q hq,List.getElem?_set_ne d]
theorem Wf.set {G L:Nat} {g:Sp} (h:Wf G L g) {j:Nat} {a b:Int} (h1:0<=a) (h2:a<=b) (h3:b<=(L:Int)):Wf G L (g.set j (a,b)):=by
 refine ⟨by simp[h.1],fun q x hq hx=>?_⟩
 rw[List.getElem?_set]at hx
 split at hx
 ·split at hx
  ·cases hx;exact .inr ⟨h1,h2,h3⟩
  ·cases hx
 ·exact h.2 q x hq hx
theorem zsn (m:Nat) {g:Sp} {j:Nat} (hj:j<g.length) (hl:g.length<=100000) (a b:Int):zzg m g (j:Int) a b=some (g.set j (a,b)):=by
 unfold zzg app
 rw[if_pos oss]
 simp only[Option.bind_some,List.nil_append,idx_nat,zuR hj,List.getElem?_eq_getElem hj]
section
variable {tx:List Int} {G:Nat} {n:Nat} (hx:zjG tx) (hL:tx.length<=1000) (hG:G<=1000) (hn:n<20000)
variable {wh:Bool} {Q:Sp->Sp->Prop} {lo hi:Int} {no lz:Bool} {rs:List (Int × Int)} {subs:List Pc} {i:Int} {sp g:Sp} {K:Nat->Kt} {r:List Rs}
 (h0:0<=i) (h1:i<=(tx.length:Int)) (hE:E1 sp g) (hW:Wf G tx.length g) (hK:Rel tx wh G Q (n+1) i K r)
abbrev zuQ (tx:List Int) (G n:Nat) (wh:Bool) (Q:Sp->Sp->Prop) (x:PcT) (i:Int) (sp g:Sp) (K:Nat->Kt) (r:List Rs):Prop:=
 ∃ o,okR G tx.length (n+1) o∧Tot (fun m=>zzz m (tx,sp,(n:Int)) x i (K m)) (PA tx Q g o)∧Tot (fun m=>zzy m (tx,(n:Int),wh,false) x i g r) (PB tx wh o)
include hn
theorem ztg:okR G tx.length (n+1) (.no (n+1)):=⟨ai _,hn⟩
include h0 h1 hE hW hK
theorem znZ (b:Bool) {x:PcT} (hA:∀ m,zzz (m+1) (tx,sp,(n:Int)) x i (K (m+1))=if b=true then zyu tx (K (m+1) i (tx,sp,((n+1:Nat):Int))) else some (.inl (false,(tx,sp,((n+1:Nat):Int)))))
 (hB:∀ m,zzy (m+1) (tx,(n:Int),wh,false) x i g r=if b=true then zxv tx (zzx m (tx,((n+1:Nat):Int),wh,false) r i g) else some (([]:Sp),false,(tx,((n+1:Nat):Int),wh,false))):zuQ tx G n wh Q x i sp g K r:=by
 cases b with
 | false=>exact ⟨.no (n+1),ztg hn,suc (eqf hA (ab ⟨sp,rfl,hE⟩)),suc (eqf hB (ab rfl))⟩
 | true=>
   obtain ⟨o,ho,h2,h3⟩:=hK (n+1) i sp g (ai _) hn (aj _) h1 hE hW
   exact ⟨o,ho,suc (eqf hA (zzd (shf h2))),suc (eqf hB (zz5 h3))⟩
theorem try_4:zuQ tx G n wh Q (4,lo,hi,no,lz,rs,subs) i sp g K r:=
 znZ hn h0 h1 hE hW hK (i==0) (fun m=>ziR hn m tx sp lo hi no lz rs subs i (K (m+1))) (fun m=>zj2 hn m tx wh lo hi no lz rs subs i g r)
theorem try_5:zuQ tx G n wh Q (5,lo,hi,no,lz,rs,subs) i sp g K r:=
 znZ hn h0 h1 hE hW hK (i==((tx.length:Nat):Int)) (fun m=>zi6 hn m tx sp lo hi no lz rs subs i (K (m+1))) (fun m=>ziU hn m tx wh lo hi no lz rs subs i g r)
include hL
theorem try_6:zuQ tx G n wh Q (6,lo,hi,no,lz,rs,subs) i sp g K r:=
 znZ hn h0 h1 hE hW hK (!((!(zvZ tx (i-1)==zvZ tx i))==no)) (fun m=>by rw[ziO hn m tx sp lo hi no lz rs subs i (K (m+1)),zk3 m sp _ h0 h1 hL];rfl)
  (fun m=>by rw[ziD hn m tx wh lo hi no lz rs subs i g r,zzw (x:=i-1) om om,zrf,zrf];rfl)
include hx
theorem zjm {k:Int} (hk:k=1∨k=2∨k=3) (hr:rs.length<=BigR):zuQ tx G n wh Q (k,lo,hi,no,lz,rs,subs) i sp g K r:=by
 have hs:=zpC hx (x:=(k,lo,hi,no,lz,rs,subs)) hr h0 sp ((n+1:Nat):Int)
 have hf:=zmh (tx:=tx) (x:=(k,lo,hi,no,lz,rs,subs)) hr h0 (((n+1:Nat):Int),wh,false)
 cases hb:zjR tx (k,lo,hi,no,lz,rs,subs) i with
 | false=>
   refine ⟨.no (n+1),ztg hn,suc (eqf (fun m=>zkj hn m tx sp lo hi no lz rs subs i (K (m+1)) hk) (ac hs fun a e=>?_)),suc (eqf (fun m=>zlB hn m tx wh lo hi no lz rs subs i g r hk) (ac hf fun a e=>?_))⟩
   ·rw[e,hb];exact ab ⟨sp,rfl,hE⟩
   ·rw[e,hb];exact ab rfl
 | true=>
   have b:i+1<=(tx.length:Int):=by
    by_cases h:(tx.length:Int)<=i
    ·unfold zjR at hb;rw[zwM h]at hb;cases hb
    ·omega
   obtain ⟨o,ho,h2,h3⟩:=hK (n+1) (i+1) sp g (ai _) hn om b hE hW
   refine ⟨o,ho,suc (eqf (fun m=>zkj hn m tx sp lo hi no lz rs subs i (K (m+1)) hk) (ac hs fun a e=>?_)),suc (eqf (fun m=>zlB hn m tx wh lo hi no lz rs subs i g r hk) (ac hf fun a e=>?_))⟩
   ·rw[e,hb,zzw (x:=i+1) om om];exact zzd (shf h2)
   ·rw[e,hb,zzw (x:=i+1) om om];exact zz5 h3
omit hx hL
variable (hT:∀ n',n<n'->n'<=20000->zrl tx G (okT G) n')
include hT
theorem try_8 (hs:∀ x∈subs,okT G x):zuQ tx G n wh Q (8,lo,hi,no,lz,rs,subs) i sp g K r:=by
 obtain ⟨o,ho,h2,h3⟩:=zno (ok:=okT G) (n0:=n+1) (fun n' h=>hT n' h) subs hs (fun m=>K (m+1)) r Z7 0 0 i h0 hK.suc (n+1) i sp g (ai _) hn (aj _) h1 hE hW
 exact ⟨o,ho,suc (eqf (fun m=>ziP hn m tx sp lo hi no lz rs subs i (K (m+1))) (zzd h2)),suc (eqf (fun m=>zhy hn m tx wh lo hi no lz rs subs i g r) (zz5 h3))⟩
end
section
variable (m:Nat) (tx:List Int) (sp:Sp) (n:Int) (i:Int) (K:Kt) (k lo hi:Int) (no lz:Bool) (rs:List (Int × Int)) (subs:List Pc)
theorem zlf:zzh (m+1) (tx,sp,n) (k,0,hi,no,lz,rs,subs) i K=(idx subs 0).bind fun x=>zyu tx (zzz m (tx,sp,n) x.un i K):=by
 rw[zzh.eq_2]
 simp only[beq_self_eq_true,if_true]
 rfl
theorem ziX {lo:Int} (h:lo≠0):zzh (m+1) (tx,sp,n) (k,lo,hi,no,lz,rs,subs) i K=(idx subs 0).bind fun x=>zyu tx (zzz m (tx,sp,n) x.un i (fun j st=>zzn m j (tx,st.2.1,st.2.2) (k,lo,hi,no,lz,rs,subs) i K)):=by
 rw[zzh.eq_2]
 simp only[show (lo==0)=false by simpa using h,aa,if_false]
 rfl
end
section
variable {tx:List Int} {G:Nat} {n:Nat} (hG:G<=1000) (hn:n<20000)
variable {wh:Bool} {Q:Sp->Sp->Prop} {k lo hi:Int} {no lz:Bool} {rs:List (Int × Int)} {subs:List Pc} {i:Int} {sp g:Sp} {K:Nat->Kt} {r:List Rs}
include hG
theorem zoA {n0:Nat} {j:Nat} (hj1:1<=j) (hj2:j<=G) (h0:0<=i) (hK:Rel tx wh G Q n0 i K r) (st:Int) (x:PcT) (hx:x.2.1=(j:Int)) (pa:List Pc) (ro:Int):
 Rel tx wh G Q n0 i (fun m p s=>zzn m p (tx,s.2.1,s.2.2) x i (K m)) [Rs.of (2,pa,x,i,ro,r)]:=fun n' p sp g h2 h3 h4 h5 h6 h7=>by
 have f:j<g.length:=by rw[h7.1];omega
 have h:j<sp.length:=by rw[h6.1];exact f
 have hw:=h7.set (j:=j) (a:=i) (b:=p) h0 h4 h5
 obtain ⟨o,ho,hA,hB⟩:=hK n' p (sp.set j (i,p)) (g.set j (i,p)) h2 h3 h4 h5 (h6.set j (i,p)) hw
 refine ⟨o,ho,?_,suc (eqf (fun m=>?_) (zz5 hB))⟩
 ·refine eqf (g:=fun m=>(K m p (tx,sp.set j (i,p),(n':Int))).bind (pcase (fun d=>(if d.1 then (some (.inl (true,(tx,d.2.2.1,d.2.2.2)))) else (Option.bind (idx d.2.2.1 (j:Int)) fun x87=>(Option.bind (upd d.2.2.1 (j:Int) (sp[j].1,sp[j].2)) fun u=>(some (.inl (false,(tx,u,d.2.2.2)))))))) (fun q=>(some (.inr q))))) (fun m=>?_) ?_
  ·unfold zzn
   simp only[hx,idx_nat,List.getElem?_eq_getElem h,Option.bind_some,zuR h]
  ·refine ac hA fun a ha=>?_
   cases o with
   | over=>cases ha;exact ab rfl
   | no n2=>
     obtain ⟨s2,rfl,h8⟩:=ha
     have l:j<s2.length:=by rw[h8.1,am];exact f
     refine ⟨.inl (false,(tx,s2.set j (sp[j].1,sp[j].2),(n2:Int))),⟨_,rfl,?_⟩,0,fun m _=>?_⟩
     ·refine h8.back ?_
      rw[<- h6.2 j hj1,List.getElem?_eq_getElem h]
     ·simp only[pcase,aa,if_false,idx_nat,List.getElem?_eq_getElem l,Option.bind_some,zuR l]
   | yes g2 n2=>
     obtain ⟨s2,rfl,h8⟩:=ha
     exact ab ⟨s2,rfl,h8⟩
 ·show zzx (m+1) _ _ _ _=_
  rw[goB_2,hx,zsn m f (by rw[h7.1];omega)]
  rfl
variable (h0:0<=i) (h1:i<=(tx.length:Int)) (hE:E1 sp g) (hW:Wf G tx.length g) (hK:Rel tx wh G Q (n+1) i K r) (hT:∀ n',n<n'->n'<=20000->zrl tx G (okT G) n')
include hn h0 h1 hE hW hK hT
theorem try_7 (hk:0<=lo∧lo<=(G:Int)) {x:Pc} {t:List Pc} (hs:okT G x):zuQ tx G n wh Q (7,lo,hi,no,lz,rs,x::t) i sp g K r:=by
 by_cases hl:lo=0
 ·subst hl
  obtain ⟨o,ho,h2,h3⟩:=hT (n+1) om hn wh Q x i sp g (fun m=>K (m+2)) r hs h0 h1 hE hW (hK.suc.suc.up om (aj _))
  refine ⟨o,ho.le om,suc (suc (eqf (fun m=>?_) (zzd (zzd h2)))),suc (eqf (fun m=>?_) (zz5 h3))⟩
  ·rw[zkz hn,zlf,zph];rfl
  ·rw[zke hn,zph];rfl
 ·obtain ⟨j,rfl⟩:∃ j:Nat,lo=(j:Int):=⟨lo.toNat,om⟩
  have hr:=zoA (n0:=n+2) hG (j:=j) om om h0 (hK.suc.suc.up (n1:=n+2) om (aj _)) i (7,(j:Int),hi,no,lz,rs,x::t) rfl [] 0
  have b:Rel tx wh G Q (n+2) i (fun m p s=>zzn m p (tx,s.2.1,s.2.2) (7,(j:Int),hi,no,lz,rs,x::t) i (K (m+2))) [Rs.of (2,[],(7,(j:Int),hi,no,lz,rs,x::t),i,0,r)]:=hr
  obtain ⟨o,ho,h2,h3⟩:=hT (n+1) om hn wh Q x i sp g _ _ hs h0 h1 hE hW b
  refine ⟨o,ho.le om,suc (suc (eqf (fun m=>?_) (zzd (zzd h2)))),suc (eqf (fun m=>?_) (zz5 h3))⟩
  ·rw[zkz hn,ziX m tx sp _ i _ _ _ _ _ _ _ hl,zph];rfl
  ·rw[zke hn,zph]
   simp only[Option.bind_some,show ((j:Int)==0)=false by simpa using hl,aa,if_false]
end
def zrr (a b:List Int) (s5:Int):Option (Int ⊕ (Unit ⊕ Bool)):=(if (decide (s5<((ag a:Nat):Int))) then (Option.bind (idx a s5) fun x12=>(Option.bind (idx b s5) fun x15=>(if (x12 !=x15) then (some (.inr (.inr (false)))) else (some (.inl (IntKind.i64.wrap (s5+1))))))) else (some (.inr (.inl ()))))
theorem zr4 {a b:List Int} (hl:a.length<=BigR):∀ (r1 r2 p1 p2:List Int),a=p1++r1->b=p2++r2->p1.length=p2.length->r1.length=r2.length->LT (fun _=>zrr a b) (p1.length:Int) (fun y=>y=if r1==r2 then .inl () else .inr false)
 | [],r2,p1,p2,e1,e2,h1,h2=>by
   have:r2=[]:=List.length_eq_zero_iff.1 h2.symm
   subst this
   refine LT.fin (r:=.inl ()) (Tot.alln fun n=>?_) rfl
   unfold zrr
   rw[if_neg]
   rw[e1,ak,dff om];decide
 | x::r1,[],p1,p2,e1,e2,h1,h2=>by cases h2
 | x::r1,y::r2,p1,p2,e1,e2,h1,h2=>by
   have f:=hl
   unfold BigR at f
   rw[e1,ae,af]at f
   have d:zrr a b (p1.length:Int)=if (x !=y)=true then some (.inr (.inr false)) else some (.inl ((p1.length+1:Nat):Int)):=by
    unfold zrr
    rw[if_pos (dtt (by rw[e1,ae,af];omega))]
    rw[show idx a (p1.length:Int)=some x by rw[e1];exact zzL p1 x r1 rfl,show idx b (p1.length:Int)=some y by rw[e2];exact zzL p2 y r2 h1]
    simp only[Option.bind_some]
    rw[zzw (x:=(p1.length:Int)+1) om om]
    rfl
   by_cases h:x=y
   ·subst h
    have ih:=zr4 (a:=a) (b:=b) hl r1 r2 (p1++[x]) (p2++[x]) (by rw[e1];simp) (by rw[e2];simp) (by simp[h1]) (by simpa using h2)
    rw[show (((p1++[x]).length:Nat):Int)=((p1.length+1:Nat):Int) by simp]at ih
    refine LT.step (Tot.alln fun n=>by rw[d,if_neg (by simp)]) (ih.mono fun r hr=>?_)
    rw[hr];simp
   ·refine LT.fin (r:=.inr false) (Tot.alln fun n=>by rw[d,if_pos (by simpa using h)]) ?_
    simp[h]
theorem zku {a b:List Int} (hl:a.length<=BigR):Tot (fun n=>if ((((ag a:Nat):Int))!=((ag b:Nat):Int))=true then some false else (zzf (zrr a b) n 0).bind (zyA fun _=>some true)) (· =(a==b)):=by
 by_cases h:a.length=b.length
 ·refine al (by simp[h]) (ac (LT.tot (zr4 hl a b [] [] rfl rfl rfl h)) fun y hy=>?_)
  subst hy
  cases he:a==b
  ·exact ab rfl
  ·exact ab rfl
 ·refine Tot.it oss (ab ?_)
  have:a≠b:=fun e=>h (by rw[e])
  simp[this]
theorem zrD {a b:List Int} (hl:a.length<=BigR):Tot (fun n=>zz8 n a b) (· =(a==b)):=zku hl
theorem zte {a b:List Int} (hl:a.length<=BigR):Tot (fun n=>zxk n a b) (· =(a==b)):=zku hl
theorem zpS {α:Type} {l:List α} {a b:Int} (h0:0<=a) (h1:a<=b) (h2:b<=(l.length:Int)):∃ u,sub l a b=some u∧(u.length:Int)=b-a:=by
 unfold sub
 rw[if_pos om]
 refine ⟨_,rfl,?_⟩
 simp;omega
section
variable {tx:List Int} {G:Nat} {n:Nat} (hL:tx.length<=1000) (hG:G<=1000) (hn:n<20000)
variable {wh:Bool} {Q:Sp->Sp->Prop} {lo hi:Int} {no lz:Bool} {rs:List (Int × Int)} {subs:List Pc} {i:Int} {sp g:Sp} {K:Nat->Kt} {r:List Rs}
 (h0:0<=i) (h1:i<=(tx.length:Int)) (hE:E1 sp g) (hW:Wf G tx.length g) (hK:Rel tx wh G Q (n+1) i K r)
include hL hn h0 h1 hE hW hK
theorem zi7 (hk:1<=lo∧lo<=(G:Int)):zuQ tx G n wh Q (12,lo,hi,no,lz,rs,subs) i sp g K r:=by
 obtain ⟨j,rfl⟩:∃ j:Nat,lo=(j:Int):=⟨lo.toNat,om⟩
 have hj:j<g.length:=by rw[hW.1];omega
 have hg:idx g (j:Int)=some g[j]:=by rw[idx_nat,List.getElem?_eq_getElem hj]
 have hs:idx sp (j:Int)=some g[j]:=by rw[idx_nat,hE.2 j om,List.getElem?_eq_getElem hj]
 have hA:∀ m,zzz (m+1) (tx,sp,(n:Int)) (12,(j:Int),hi,no,lz,rs,subs) i (K (m+1))=_:=fun m=>zjr hn m tx sp (j:Int) hi no lz rs subs i (K (m+1))
 have hB:∀ m,zzy (m+1) (tx,(n:Int),wh,false) (12,(j:Int),hi,no,lz,rs,subs) i g r=_:=fun m=>zjl hn m tx wh (j:Int) hi no lz rs subs i g r
 have hw:=hW.2 j g[j] om (List.getElem?_eq_getElem hj)
 simp only[zyv,hs,Option.bind_some]at hA
 simp only[hg,Option.bind_some]at hB
 generalize hx:g[j]=x at hA hB hw
 obtain ⟨a,b⟩:=x
 simp only at hA hB hw
 by_cases ha:a<0
 ·simp only[dtt ha,if_true,Option.bind_some]at hA hB
  exact ⟨.no (n+1),ztg hn,suc (eqf hA (ab ⟨sp,rfl,hE⟩)),suc (eqf hB (ab rfl))⟩
 ·obtain ⟨u,hu,f⟩:=zpS (l:=tx) (a:=a) (b:=b) om om om
  simp only[dff ha,aa,if_false,hu,Option.bind_some,f]at hA hB
  rw[zzw (x:=(tx.length:Int)-i) om om,zzw (x:=i+(b-a)) om om]at hA
  rw[zzw (x:=i+b) om om,zzw (x:=i+b-a) om om,show i+b-a=i+(b-a) by omega]at hB
  by_cases hc:b-a>(tx.length:Int)-i
  ·simp only[dtt hc,dtt (show i+(b-a)>(tx.length:Int) by omega),if_true,Option.bind_some]at hA hB
   exact ⟨.no (n+1),ztg hn,suc (eqf hA (ab ⟨sp,rfl,hE⟩)),suc (eqf hB (ab rfl))⟩
  ·obtain ⟨v,hv,hvl⟩:=zpS (l:=tx) (a:=i) (b:=i+(b-a)) om om om
   simp only[dff hc,dff (show ¬ i+(b-a)>(tx.length:Int) by omega),aa,if_false,hv,Option.bind_some]at hA hB
   have d:u.length<=BigR:=by unfold BigR;omega
   cases he:u==v with
   | false=>
     refine ⟨.no (n+1),ztg hn,suc (eqf hA ?_),suc (eqf hB ?_)⟩
     ·refine zzd (ac (P:=(· =true)) (ac (zrD d) fun y hy=>ab (by rw[hy,he];rfl)) fun y hy=>?_)
      subst hy
      exact ab ⟨sp,rfl,hE⟩
     ·refine ac (P:=(· =true)) (ac (zte d) fun y hy=>ab (by rw[hy,he];rfl)) fun y hy=>?_
      subst hy
      exact ab rfl
   | true=>
     obtain ⟨o,ho,h2,h3⟩:=hK (n+1) (i+(b-a)) sp g (ai _) hn om om hE hW
     refine ⟨o,ho,suc (eqf hA ?_),suc (eqf hB ?_)⟩
     ·refine zzd (ac (P:=(· =false)) (ac (zrD d) fun y hy=>ab (by rw[hy,he];rfl)) fun y hy=>?_)
      subst hy
      exact zzd (shf h2)
     ·refine ac (P:=(· =false)) (ac (zte d) fun y hy=>ab (by rw[hy,he];rfl)) fun y hy=>?_
      subst hy
      exact zz5 h3
end
theorem tb {α β:Type} {f:Nat->Option α} {a:α} {N:Nat} (hN:∀ n,N<=n->f n=some a) {k:Nat->α->Option β} {b:β} (h:∀ n,k n a=some b):Tot (fun n=>(f n).bind (k n)) (· =b):=
 ⟨b,rfl,N,fun n hn=>by show (f n).bind _=_;rw[hN n hn];exact h n⟩
noncomputable def ziY (tx:List Int) (m:Nat) (subs:List Pc) (i:Int) (K:Kt) (s4:Int × TSt):Option ((Int × TSt) ⊕ (TSt ⊕ ((Int × TSt) ⊕ Unit))):=
 (if (decide (s4.1<((ag subs:Nat):Int))) then (Option.bind (idx subs s4.1) fun x14=>(Option.bind (zzi m (Pc.un x14) (tx,s4.2.2.1,s4.2.2.2) i K) (pcase (fun r23=>(if r23.1 then (some (.inr (.inr (.inl (s4.1,(tx,r23.2.2.1,r23.2.2.2)))))) else (some (.inl ((IntKind.i64.wrap (s4.1+1)),(tx,r23.2.2.1,r23.2.2.2)))))) (fun pn26=>(some (.inr (.inr (.inr pn26)))))))) else (some (.inr (.inl (tx,s4.2.2.1,s4.2.2.2)))))
section
variable (m:Nat) (tx:List Int) (sp:Sp) (n:Int) (i:Int) (K:Kt) (x:PcT) (subs:List Pc)
theorem try1A:zzi (m+1) x (tx,sp,n) i K=zyu tx (zzz m (tx,sp,n) x i K):=by
 rw[zzi.eq_2];rfl
theorem zj0:zzN (m+1) subs (tx,sp,n) i K=(zzf (ziY tx m subs i K) m (0,(tx,sp,n))).bind (zyA fun s2=>some (.inl (-1,(tx,s2.2.1,s2.2.2)))):=by
 rw[zzN.eq_2];rfl
theorem alt1A:zz1 (m+1) subs (tx,sp,n) i K=(zzN m subs (tx,sp,n) i K).bind (pcase (fun r1=>some (.inl (decide (r1.1>=0),(tx,r1.2.2.1,r1.2.2.2)))) (fun p=>some (.inr p))):=by
 rw[zz1.eq_2]
end
def QA (tx:List Int) (Q:Sp->Sp->Prop) (g:Sp):Res->(TSt ⊕ ((Int × TSt) ⊕ Unit))->Prop
 | .over,y=>y= .inr (.inr ())
 | .no n,y=>∃ sp,y= .inl (tx,sp,(n:Int))∧E1 sp g
 | .yes g' n,y=>∃ sp k,0<=k∧y= .inr (.inl (k,(tx,sp,(n:Int))))∧Q sp g'
def QB (tx:List Int) (wh:Bool):Res->(Eng ⊕ ((Sp × Bool × Eng) ⊕ RB))->Prop
 | .over,y=>∃ r,y= .inr (.inr r)∧PB tx wh .over r
 | .no n,y=>y= .inl (tx,(n:Int),wh,false)
 | .yes g n,y=>y= .inr (.inr (g,true,(tx,(n:Int),wh,false)))
section
variable {tx:List Int} {G:Nat} {n:Nat} (hn:n<20000)
variable {wh:Bool} {Q:Sp->Sp->Prop} {lo hi:Int} {no lz:Bool} {rs:List (Int × Int)} {subs:List Pc} {i:Int} {g:Sp} {K:Nat->Kt} {r:List Rs}
 (h0:0<=i) (h1:i<=(tx.length:Int)) (hW:Wf G tx.length g) (hK:Rel tx wh G Q (n+1) i K r)
 (hT:∀ n',n<n'->n'<=20000->zrl tx G (okT G) n') (hs:∀ x∈subs,okT G x) (hl:subs.length<=BigR)
include h0 h1 hW hK hT hs hl
theorem znJ:∀ (l pre:List Pc),subs=pre++l->∀ (n':Nat) (sp:Sp),n<n'->n'<=20000->E1 sp g->∃ o,okR G tx.length n' o∧
 LT (fun m=>ziY tx m subs i (K m)) ((pre.length:Int),(tx,sp,(n':Int))) (QA tx Q g o)∧LT (fun m=>zho tx m subs i g r) ((pre.length:Int),(tx,(n':Int),wh,false)) (QB tx wh o)
 | [],pre,e,n',sp,k1,k2,hE=>by
   have hc:decide (((pre.length:Nat):Int)<((subs.length:Nat):Int))=false:=by rw[e,ak,dff om]
   refine ⟨.no n',⟨ai _,k2⟩,LT.fin (r:=.inl (tx,sp,(n':Int))) (Tot.alln fun m=>?_) ⟨sp,rfl,hE⟩,LT.fin (r:=.inl (tx,(n':Int),wh,false)) (Tot.alln fun m=>?_) (by exact rfl)⟩
   ·unfold ziY;simp only[hc,aa,if_false]
   ·unfold zho;simp only[hc,aa,if_false]
 | x::t,pre,e,n',sp,k1,k2,hE=>by
   have h:=hl
   unfold BigR at h
   rw[e,ae,af]at h
   have hc:decide (((pre.length:Nat):Int)<((subs.length:Nat):Int))=true:=by rw[e,ae,af,dtt om]
   have hi:idx subs (pre.length:Int)=some x:=by rw[e];exact zzL pre x t rfl
   have hw:IntKind.i64.wrap ((pre.length:Int)+1)=((pre.length+1:Nat):Int):=by rw[zzw om om];omega
   obtain ⟨o,ho,h2,h3⟩:=hT n' k1 k2 wh Q x i sp g (fun m=>K (m+1)) r (hs x (by rw[e];simp)) h0 h1 hE hW (hK.suc.up om (aj _))
   have hA:Tot (fun m=>zzi m x.un (tx,sp,(n':Int)) i (K m)) (PA tx Q g o):=suc (eqf (fun m=>try1A m tx sp _ i (K (m+1)) x.un) (zzd h2))
   have ea:∀ m,ziY tx m subs i (K m) ((pre.length:Int),(tx,sp,(n':Int)))=(zzi m x.un (tx,sp,(n':Int)) i (K m)).bind (pcase (fun d=>(if d.1 then (some (.inr (.inr (.inl ((pre.length:Int),(tx,d.2.2.1,d.2.2.2)))))) else (some (.inl (((pre.length+1:Nat):Int),(tx,d.2.2.1,d.2.2.2)))))) (fun p=>(some (.inr (.inr (.inr p)))))):=fun m=>by
    unfold ziY;simp only[hc,if_true,hi,Option.bind_some,hw]
   have eb:∀ m,zho tx m subs i g r ((pre.length:Int),(tx,(n':Int),wh,false))=(zzy m (tx,(n':Int),wh,false) (Pc.un x) i g r).bind fun b=>(Option.bind (if b.2.1 then (some (true)) else (some (b.2.2.2.2.2))) fun (q:Bool)=>(if q then (some (.inr (.inr (.inr ((b.1,b.2.1,(tx,b.2.2.2.1,b.2.2.2.2.1,b.2.2.2.2.2))))))) else (some (.inl (((pre.length+1:Nat):Int),(tx,b.2.2.2.1,b.2.2.2.2.1,b.2.2.2.2.2)))))):=fun m=>by
    unfold zho;simp only[hc,if_true,hi,Option.bind_some,hw]
   cases o with
   | over=>
     refine ⟨.over,trivial,LT.fin (r:=.inr (.inr ())) (eqf ea (ac hA fun a ha=>?_)) (by exact rfl),?_⟩
     ·cases ha;exact ab rfl
     ·obtain ⟨a,⟨ha,t',j⟩,N,hN⟩:=h3
      obtain ⟨a1,a2,a3⟩:=a
      simp only at ha j
      subst ha;subst j
      exact LT.fin (r:=.inr (.inr (a1,false,(tx,t',wh,true)))) (eqf eb (tb hN fun m=>rfl)) ⟨_,rfl,rfl,t',rfl⟩
   | yes g' n2=>
     obtain ⟨a,⟨f,rfl,hq⟩,N,hN⟩:=hA
     refine ⟨.yes g' n2,⟨by have:=ho.1;omega,ho.2⟩,LT.fin (r:=.inr (.inl ((pre.length:Int),(tx,f,(n2:Int))))) (eqf ea (tb hN fun m=>rfl)) ⟨f,_,om,rfl,hq⟩,LT.fin (r:=.inr (.inr (g',true,(tx,(n2:Int),wh,false)))) (eqf eb (ac h3 fun a ha=>?_)) (by exact rfl)⟩
     cases ha;exact ab rfl
   | no n2=>
     obtain ⟨a,⟨f,rfl,hq⟩,N,hN⟩:=hA
     have hn2:=ho.1
     obtain ⟨o,s,iA,iB⟩:=znJ t (pre++[x]) (by rw[e];simp) n2 f om ho.2 hq
     rw[show (((pre++[x]).length:Nat):Int)=((pre.length+1:Nat):Int) by simp]at iA iB
     refine ⟨o,s.le om,LT.step (eqf ea (tb hN fun m=>rfl)) iA,LT.step (eqf eb (ac h3 fun a ha=>?_)) iB⟩
     obtain ⟨a1,a2,a3⟩:=a
     cases ha;exact ab rfl
omit hK
include hn
theorem try_9 {sp:Sp} (hK:Rel tx wh G Q (n+1) i K r) (hE:E1 sp g):zuQ tx G n wh Q (9,lo,hi,no,lz,rs,subs) i sp g K r:=by
 obtain ⟨o,ho,hA,hB⟩:=znJ (K:=fun m=>K (m+3)) h0 h1 hW hK.suc.suc.suc hT hs hl subs [] rfl (n+1) sp om hn hE
 refine ⟨o,ho,suc (eqf (fun m=>ziy hn m tx sp lo hi no lz rs subs i (K (m+1))) (zzd (suc (eqf (fun m=>alt1A m tx sp _ i (K (m+2)) subs) ?_)))),suc (eqf (fun m=>ziW hn m tx wh lo hi no lz rs subs i g r) ?_)⟩
 ·refine ac (P:=fun y=>∃ z,y=z∧Tot (fun _=>pcase (fun r1:Int × TSt=>(some (.inl (decide (r1.1>=0),(tx,r1.2.2.1,r1.2.2.2))):Option RA)) (fun p=>some (.inr p)) z) (PA tx Q g o)) (suc (eqf (fun m=>zj0 m tx sp _ i (K (m+3)) subs) (ac (LT.tot hA) fun y hy=>?_))) (fun y ⟨z,e,h⟩=>by subst e;exact h)
  cases o with
  | over=>cases hy;exact ab ⟨_,rfl,ab rfl⟩
  | no n2=>obtain ⟨b,rfl,hq⟩:=hy;exact ab ⟨_,rfl,ab ⟨b,rfl,hq⟩⟩
  | yes g2 n2=>obtain ⟨b,k,hk,rfl,hq⟩:=hy;exact ab ⟨_,rfl,ab ⟨b,by rw[dtt (show k>=0 from hk)],hq⟩⟩
 ·refine ac (P:=fun y=>∃ z,y= .inr z∧PB tx wh o z) (ac (LT.tot hB) fun y hy=>?_) (fun y ⟨z,e,h⟩=>by subst e;exact ab h)
  cases o with
  | over=>obtain ⟨r,rfl,h⟩:=hy;exact ab ⟨_,rfl,h⟩
  | no n2=>cases hy;exact ab ⟨_,rfl,rfl⟩
  | yes g2 n2=>cases hy;exact ab ⟨_,rfl,rfl⟩
end
def zqo (tx:List Int) (r8:Sp) (o:Option RA):Option RA:=(o.bind (pcase (fun r=>(some (.inl (r.1,(tx,r.2.2.1,r.2.2.2))):Option ((Bool × TSt) ⊕ RA))) (fun p=>some (.inr (.inr p))))).bind (zyA fun s84=>if s84.1 then some (.inl (true,(tx,s84.2.2.1,s84.2.2.2))) else (cpy s84.2.2.1 r8).bind fun l=>some (.inl (false,(tx,l,s84.2.2.2))))
theorem lookA (m:Nat) (tx:List Int) (sp:Sp) (n i:Int) (K:Kt) (k lo hi:Int) (no lz:Bool) (rs:List (Int × Int)) (x:Pc) (t:List Pc):zzX (m+1) (tx,sp,n) (k,lo,hi,no,lz,rs,x::t) i K=(app ([]:Sp) sp).bind fun r8=>(zzz m (tx,sp,n) x.un i (fun _ st=>some (.inl (true,st)))).bind (pcase (fun b=>(if no=true then (cpy b.2.2.1 r8).bind fun l=>some (tx,l,b.2.2.2) else some (tx,b.2.2.1,b.2.2.2)).bind fun j:TSt=>if (!(b.1==no))=true then zqo tx r8 (K i (tx,j.2.1,j.2.2)) else (cpy j.2.1 r8).bind fun l=>some (.inl (false,(tx,l,j.2.2)))) (fun p=>some (.inr p))):=by
 rw[zzX.eq_2]
 unfold zzB
 cases app ([]:Sp) sp with
 | none=>rfl
 | some r8=>
   simp only[Option.bind_some,zph]
   refine congrArg (Option.bind _) ?_
   refine congrArg (fun f=>pcase f _) ?_
   funext b
   refine congrArg (Option.bind _) ?_
   funext j
   cases (!(b.1==no))
   ·rfl
   ·rfl
theorem zkU {α:Type} {l:List α} (h:l.length<=100000):app ([]:List α) l=some l:=by
 unfold app
 rw[if_pos oss,List.nil_append]
theorem zv5 {α:Type} {a b:List α} (h:b.length=a.length) (h0:0<a.length):cpy a b=some b:=by
 unfold cpy
 rw[if_pos ⟨h,h0⟩]
theorem E1.set0 {a b:Sp} (h:E1 a b) (x:Int × Int):E1 a (b.set 0 x):=by
 refine ⟨by simp[h.1],fun q hq=>?_⟩
 rw[List.getElem?_set_ne om]
 exact h.2 q hq
theorem Wf.set0 {G L:Nat} {g:Sp} (h:Wf G L g) (x:Int × Int):Wf G L (g.set 0 x):=by
 refine ⟨by simp[h.1],fun q y hq hy=>?_⟩
 rw[List.getElem?_set_ne om]at hy
 exact h.2 q y hq hy
theorem zrg {tx:List Int} {Q:Sp->Sp->Prop} {g g2 sp:Sp} {o:Res} {F:Nat->Option RA} (h:Tot F (PA tx Q g2 o)) (hE:E1 sp g) (hl:sp.length=g2.length) (h0:0<g2.length):Tot (fun m=>zqo tx sp (F m)) (PA tx Q g o):=by
 obtain ⟨a,ha,N,hN⟩:=h
 cases o with
 | over=>cases ha;exact ⟨.inr (),rfl,N,fun m hm=>by show zqo tx sp (F m)=_;rw[hN m hm];rfl⟩
 | no n=>
   obtain ⟨s2,rfl,h2⟩:=ha
   refine ⟨.inl (false,(tx,sp,(n:Int))),⟨sp,rfl,hE⟩,N,fun m hm=>?_⟩
   show zqo tx sp (F m)=_
   rw[hN m hm]
   simp only[zqo,Option.bind_some,pcase,zyA,aa,if_false,zv5 (a:=s2) (b:=sp) (by rw[h2.1,hl]) (by rw[h2.1];exact h0)]
 | yes g' n=>
   obtain ⟨s2,rfl,h2⟩:=ha
   exact ⟨.inl (true,(tx,s2,(n:Int))),⟨s2,rfl,h2⟩,N,fun m hm=>by show zqo tx sp (F m)=_;rw[hN m hm];rfl⟩
abbrev r0:List Rs:=[Rs.of (0,([]:List Pc),(0,0,0,false,false,([]:List (Int × Int)),([]:List Pc)),0,1,([]:List Rs))]
section
variable {tx:List Int} {G:Nat} {n:Nat} (hG:G<=1000) (hn:n<20000)
variable {wh:Bool} {Q:Sp->Sp->Prop} {lo hi:Int} {no lz:Bool} {rs:List (Int × Int)} {i:Int} {sp g:Sp} {K:Nat->Kt} {r:List Rs}
include hG
theorem zip (n0:Nat) (i0:Int):Rel tx wh G E1 n0 i0 (fun _ _ st=>some (.inl (true,st))) r0:=fun n' p sp g h2 h3 h4 h5 h6 h7=>by
 refine ⟨.yes (g.set 0 (0,p)) n',⟨ai _,h3,h7.set0 _⟩,ab ⟨sp,rfl,h6.set0 _⟩,suc (an (Tot.alln fun m=>?_) fun a e=>e)⟩
 rw[zjh,if_neg (by simp),show zzg m g 0 0 p=zzg m g ((0:Nat):Int) 0 p from rfl,zsn m (by rw[h7.1];omega) (by rw[h7.1];omega)]
 rfl
variable (h0:0<=i) (h1:i<=(tx.length:Int)) (hE:E1 sp g) (hW:Wf G tx.length g) (hK:Rel tx wh G Q (n+1) i K r) (hT:∀ n',n<n'->n'<=20000->zrl tx G (okT G) n')
include hn h0 h1 hE hW hK hT
theorem ziQ {x:Pc} {t:List Pc} (hs:okT G x):zuQ tx G n wh Q (11,lo,hi,no,lz,rs,x::t) i sp g K r:=by
 obtain ⟨o1,h,h2,h3⟩:=hT (n+1) om hn wh E1 x i sp g (fun _ _ st=>some (.inl (true,st))) r0 hs h0 h1 hE hW (zip hG _ _)
 have s:0<g.length:=by rw[hW.1];omega
 have d:sp.length=g.length:=hE.1
 have ea:∀ m,zzz (m+2) (tx,sp,(n:Int)) (11,lo,hi,no,lz,rs,x::t) i (K (m+2))=zyu tx ((zzz m (tx,sp,((n+1:Nat):Int)) x.un i (fun _ st=>some (.inl (true,st)))).bind (pcase (fun q=>(if no=true then (cpy q.2.2.1 sp).bind fun l=>some (tx,l,q.2.2.2) else some (tx,q.2.2.1,q.2.2.2)).bind fun j:TSt=>if (!(q.1==no))=true then zqo tx sp (K (m+2) i (tx,j.2.1,j.2.2)) else (cpy j.2.1 sp).bind fun l=>some (.inl (false,(tx,l,j.2.2)))) (fun p=>some (.inr p)))):=fun m=>by
  rw[zjU hn (m+1),lookA m,zkU (by rw[d,hW.1];omega),Option.bind_some]
 have eb:∀ m,zzy (m+1) (tx,(n:Int),wh,false) (11,lo,hi,no,lz,rs,x::t) i g r=_:=fun m=>zkT hn m tx wh lo hi no lz rs (x::t) i g r
 simp only[zph,Option.bind_some]at eb
 cases o1 with
 | over=>
   refine ⟨.over,trivial,suc (suc (eqf ea (zzd (ac h2 fun a ha=>?_)))),suc (eqf eb (ac h3 fun a ha=>?_))⟩
   ·cases ha;exact ab rfl
   ·obtain ⟨a1,a2,a3⟩:=a
    obtain ⟨ha,t',u⟩:=ha
    simp only at ha u
    subst ha;subst u
    exact ab ⟨rfl,t',rfl⟩
 | no n2=>
   have w:=h.1
   cases no with
   | false=>
     refine ⟨.no n2,⟨om,h.2⟩,suc (suc (eqf ea (zzd (ac h2 fun a ha=>?_)))),suc (eqf eb (ac h3 fun a ha=>?_))⟩
     ·obtain ⟨s2,rfl,hq⟩:=ha
      refine an (Tot.alln (a:=.inl (false,(tx,sp,(n2:Int)))) fun m=>?_) fun b e=>e ▸ ⟨sp,rfl,hE⟩
      simp only[pcase,aa,if_false,Option.bind_some,show (false==false)=true from rfl,Bool.not_true,zv5 (a:=s2) (b:=sp) (by rw[hq.1,d]) (by rw[hq.1];exact s)]
     ·obtain ⟨a1,a2,a3⟩:=a
      cases ha;exact ab rfl
   | true=>
     obtain ⟨o,ho,k2,k3⟩:=hK n2 i sp g om h.2 (aj _) h1 hE hW
     refine ⟨o,ho.le om,suc (suc (eqf ea (zzd (ac h2 fun a ha=>?_)))),suc (eqf eb (ac h3 fun a ha=>?_))⟩
     ·obtain ⟨s2,rfl,hq⟩:=ha
      refine eqf (fun m=>?_) (zrg (shf (shf k2)) hE d s)
      simp only[pcase,if_true,Option.bind_some,show (false==true)=false from rfl,Bool.not_false,zv5 (a:=s2) (b:=sp) (by rw[hq.1,d]) (by rw[hq.1];exact s)]
     ·obtain ⟨a1,a2,a3⟩:=a
      cases ha
      exact zz5 k3
 | yes g2 n2=>
   have w:=h.1
   have f:=h.2.2
   cases no with
   | true=>
     refine ⟨.no n2,⟨om,h.2.1⟩,suc (suc (eqf ea (zzd (ac h2 fun a ha=>?_)))),suc (eqf eb (ac h3 fun a ha=>?_))⟩
     ·obtain ⟨s2,rfl,hq⟩:=ha
      refine an (Tot.alln (a:=.inl (false,(tx,sp,(n2:Int)))) fun m=>?_) fun b e=>e ▸ ⟨sp,rfl,hE⟩
      simp only[pcase,aa,if_true,if_false,Option.bind_some,show (true==true)=true from rfl,Bool.not_true,zv5 (a:=s2) (b:=sp) (by rw[hq.1,d,f.1,hW.1]) (by rw[hq.1,f.1];omega),zv5 (a:=sp) (b:=sp) rfl (by rw[d];exact s)]
     ·cases ha;exact ab rfl
   | false=>
     have hg0:idx g 0=some g[0]:=by rw[show (0:Int)=((0:Nat):Int) from rfl,idx_nat,List.getElem?_eq_getElem s]
     obtain ⟨a0,v⟩:=h2
     obtain ⟨⟨s2,e2,hq⟩,N,hN⟩:=v
     obtain ⟨o,ho,k2,k3⟩:=hK n2 i s2 (g2.set 0 (g[0].1,g[0].2)) om h.2.1 (aj _) h1 (E1.set0 hq _) (f.set0 _)
     refine ⟨o,ho.le om,suc (suc (eqf ea (zzd (ac (P:=(· = .inl (true,(tx,s2,(n2:Int))))) ⟨a0,e2,N,hN⟩ fun a ha=>?_)))),suc (eqf eb (ac h3 fun a ha=>?_))⟩
     ·subst ha
      exact zrg (shf (shf k2)) hE (by rw[d,am,f.1,hW.1]) (by rw[am,f.1];omega)
     ·cases ha
      refine eqf (fun m=>?_) (zz5 k3)
      have hw:=zsn m (g:=g2) (j:=0) (by rw[f.1];omega) (by rw[f.1];omega) g[0].1 g[0].2
      rw[show ((0:Nat):Int)=0 from rfl]at hw
      simp only[aa,if_false,if_true,show (true==false)=false from rfl,Bool.not_false,hg0,Option.bind_some,hw]
end
def orA (tx:List Int) (a:Option RA) (b:TSt->Option RA):Option RA:=
 (a.bind (pcase (fun r=>(if r.1 then some (.inl (true,(tx,r.2.2.1,r.2.2.2))) else (b (tx,r.2.2.1,r.2.2.2)).bind (pcase (fun r=>some (.inl (r.1,(tx,r.2.2.1,r.2.2.2)))) (fun p=>some (.inr (.inr p)))):Option ((Bool × TSt) ⊕ RA))) (fun p=>some (.inr (.inr p))))).bind (zyA fun s=>some (.inl (s.1,(tx,s.2.2.1,s.2.2.2))))
def orB (tx:List Int) (a:Option RB) (b:Eng->Option RB):Option RB:=
 a.bind fun r=>(if r.2.1 then some true else some r.2.2.2.2.2).bind fun j:Bool=>if j then some (r.1,r.2.1,(tx,r.2.2.2.1,r.2.2.2.2.1,r.2.2.2.2.2)) else zxv tx (b (tx,r.2.2.2.1,r.2.2.2.2.1,r.2.2.2.2.2))
theorem zl9 {tx:List Int} {wh:Bool} {L G n':Nat} {Q:Sp->Sp->Prop} {g:Sp} {F1:Nat->Option RA} {F2:Nat->TSt->Option RA} {G1:Nat->Option RB} {G2:Nat->Eng->Option RB} {o1:Res} (ho1:okR G L n' o1) (h1:Tot F1 (PA tx Q g o1)) (h2:Tot G1 (PB tx wh o1))
 (next:∀ n2 s2,n'<=n2->n2<=20000->E1 s2 g->∃ o,okR G L n2 o∧Tot (fun m=>F2 m (tx,s2,(n2:Int))) (PA tx Q g o)∧Tot (fun m=>G2 m (tx,(n2:Int),wh,false)) (PB tx wh o)):
 ∃ o,okR G L n' o∧Tot (fun m=>orA tx (F1 m) (F2 m)) (PA tx Q g o)∧Tot (fun m=>orB tx (G1 m) (G2 m)) (PB tx wh o):=by
 cases o1 with
 | over=>
   obtain ⟨a,ha,N,hN⟩:=h1
   cases ha
   refine ⟨.over,trivial,⟨.inr (),rfl,N,fun m hm=>by show orA tx (F1 m) (F2 m)=_;rw[hN m hm];rfl⟩,ac h2 fun a ha=>?_⟩
   obtain ⟨a1,a2,a3⟩:=a
   obtain ⟨ha,t',d⟩:=ha
   simp only at ha d
   subst ha;subst d
   exact ab ⟨rfl,t',rfl⟩
 | yes g' n2=>
   obtain ⟨a,⟨s2,rfl,hq⟩,N,hN⟩:=h1
   refine ⟨.yes g' n2,ho1,⟨.inl (true,(tx,s2,(n2:Int))),⟨s2,rfl,hq⟩,N,fun m hm=>by show orA tx (F1 m) (F2 m)=_;rw[hN m hm];rfl⟩,ac h2 fun a ha=>?_⟩
   cases ha;exact ab rfl
 | no n2=>
   obtain ⟨a,⟨s2,rfl,hq⟩,N,hN⟩:=h1
   obtain ⟨o,ho,k1,k2⟩:=next n2 s2 ho1.1 ho1.2 hq
   refine ⟨o,ho.le ho1.1,?_,ac h2 fun a ha=>?_⟩
   ·obtain ⟨b,hb,N',f⟩:=zzd k1
    refine ⟨b,hb,max N N',fun m hm=>?_⟩
    have e1:=hN m om
    have e2:=f m om
    show orA tx (F1 m) (F2 m)=_
    rw[e1,<- e2]
    show ((F2 m (tx,s2,(n2:Int))).bind (pcase (fun r=>(some (.inl (r.1,(tx,r.2.2.1,r.2.2.2))):Option ((Bool × TSt) ⊕ RA))) (fun p=>some (.inr (.inr p))))).bind (zyA fun s=>some (.inl (s.1,(tx,s.2.2.1,s.2.2.2))))=zyu tx (F2 m (tx,s2,(n2:Int)))
    generalize F2 m (tx,s2,(n2:Int))=Y
    rcases Y with _ | _ | _<;>rfl
   ·obtain ⟨a1,a2,a3⟩:=a
    cases ha;exact zz5 k2
section
variable (m:Nat) (tx:List Int) (sp g:Sp) (n:Int) (c i:Int) (K:Kt) (k lo hi:Int) (no lz:Bool) (rs:List (Int × Int)) (x:Pc) (t:List Pc) (e:Int × Bool × Bool) (r:List Rs)
theorem zin:zzv (m+1) (tx,sp,n) (k,lo,hi,no,lz,rs,x::t) c i K=if decide (c<lo)=true then zyu tx (zzt m (k,lo,hi,no,lz,rs,x::t) c (tx,sp,n) i K) else if lz=true then orA tx (K i (tx,sp,n)) (fun s=>zzt m (k,lo,hi,no,lz,rs,x::t) c s i K) else orA tx (zzt m (k,lo,hi,no,lz,rs,x::t) c (tx,sp,n) i K) (K i):=by
 rw[zzv.eq_2]
 rfl
theorem zjF:zzt (m+1) (k,lo,hi,no,lz,rs,x::t) c (tx,sp,n) i K=if (decide (hi<0)||decide (c<hi))=true then zyu tx (zyu tx (zzz m (tx,sp,n) x.un i (fun j st=>zzu m j i c (k,lo,hi,no,lz,rs,x::t) (tx,st.2.1,st.2.2) K))) else some (.inl (false,(tx,sp,n))):=by
 rw[zzt.eq_2]
 simp only[zph,Option.bind_some]
 cases decide (hi<0)
 ·cases decide (c<hi)
  ·rfl
  ·show ((zzz m (tx,sp,n) x.un i _).bind _).bind _=zyu tx (zyu tx (zzz m (tx,sp,n) x.un i _))
   generalize zzz m (tx,sp,n) x.un i _=Y
   rcases Y with _ | _ | _<;>rfl
 ·show ((zzz m (tx,sp,n) x.un i _).bind _).bind _=zyu tx (zyu tx (zzz m (tx,sp,n) x.un i _))
  generalize zzz m (tx,sp,n) x.un i _=Y
  rcases Y with _ | _ | _<;>rfl
theorem zl4 (j:Int):zzu (m+1) j i c (k,lo,hi,no,lz,rs,x::t) (tx,sp,n) K=if (decide (j>i)||decide (c<lo))=true then zyu tx (zyu tx (zzv m (tx,sp,n) (k,lo,hi,no,lz,rs,x::t) (IntKind.i64.wrap (c+1)) j K)) else some (.inl (false,(tx,sp,n))):=by
 rw[zzu.eq_2]
 simp only
 cases decide (j>i)
 ·cases decide (c<lo)
  ·rfl
  ·show ((zzv m (tx,sp,n) _ _ j K).bind _).bind _=zyu tx (zyu tx (zzv m (tx,sp,n) _ _ j K))
   generalize zzv m (tx,sp,n) _ _ j K=Y
   rcases Y with _ | _ | _<;>rfl
 ·show ((zzv m (tx,sp,n) _ _ j K).bind _).bind _=zyu tx (zyu tx (zzv m (tx,sp,n) _ _ j K))
  generalize zzv m (tx,sp,n) _ _ j K=Y
  rcases Y with _ | _ | _<;>rfl
theorem repB:zzl (m+1) (tx,e) (k,lo,hi,no,lz,rs,x::t) c i g r=if decide (c<lo)=true then zxv tx (zzp m (tx,e) (k,lo,hi,no,lz,rs,x::t) c i g r) else if lz=true then orB tx (zzx m (tx,e) r i g) (fun s=>zzp m s (k,lo,hi,no,lz,rs,x::t) c i g r) else orB tx (zzp m (tx,e) (k,lo,hi,no,lz,rs,x::t) c i g r) (fun s=>zzx m s r i g):=by
 rw[zzl.eq_2]
 rfl
theorem zl1:zzp (m+1) (tx,e) (k,lo,hi,no,lz,rs,x::t) c i g r=if (decide (hi>=0)&&decide (c>=hi))=true then some (([]:Sp),false,(tx,e)) else zxv tx (zzy m (tx,e) x.un i g [Rs.of (3,([]:List Pc),(k,lo,hi,no,lz,rs,x::t),i,IntKind.i64.wrap (c+1),r)]):=by
 rw[zzp.eq_2]
 simp only[zph,Option.bind_some]
 cases decide (hi>=0)
 ·rfl
 ·cases decide (c>=hi)
  ·rfl
  ·rfl
end
section
variable {tx:List Int} {G:Nat} {n:Nat}
variable {wh:Bool} {Q:Sp->Sp->Prop} {k lo hi:Int} {no lz:Bool} {rs:List (Int × Int)} {x:Pc} {t:List Pc}
def zn5 (tx:List Int) (G:Nat) (wh:Bool) (Q:Sp->Sp->Prop) (p:PcT) (n':Nat):Prop:=
 ∀ (c:Nat) (i:Int) (sp g:Sp) (K:Nat->Kt) (r:List Rs),c<=n'->0<=i->i<=(tx.length:Int)->E1 sp g->Wf G tx.length g->Rel tx wh G Q n' i K r->
   ∃ o,okR G tx.length n' o∧Tot (fun m=>zzv m (tx,sp,(n':Int)) p (c:Int) i (K m)) (PA tx Q g o)∧Tot (fun m=>zzl m (tx,(n':Int),wh,false) p (c:Int) i g r) (PB tx wh o)
variable (hT:∀ n',n<n'->n'<=20000->zrl tx G (okT G) n') (hs:okT G x)
include hT hs
theorem ztJ {n':Nat} (hn:n<n') (hn':n'<=20000) (hR:∀ n2,n'<n2->n2<=20000->zn5 tx G wh Q (k,lo,hi,no,lz,rs,x::t) n2) (c:Nat) (i:Int) (sp g:Sp) (K:Nat->Kt) (r:List Rs) (hc:c<=n') (h0:0<=i) (h1:i<=(tx.length:Int)) (hE:E1 sp g) (hW:Wf G tx.length g) (hK:Rel tx wh G Q n' i K r):
 ∃ o,okR G tx.length n' o∧Tot (fun m=>zzt m (k,lo,hi,no,lz,rs,x::t) (c:Int) (tx,sp,(n':Int)) i (K m)) (PA tx Q g o)∧Tot (fun m=>zzp m (tx,(n':Int),wh,false) (k,lo,hi,no,lz,rs,x::t) (c:Int) i g r) (PB tx wh o):=by
 have hw:IntKind.i64.wrap ((c:Int)+1)=((c+1:Nat):Int):=w1 om
 by_cases hh:hi>=0∧(c:Int)>=hi
 ·refine ⟨.no n',⟨ai _,hn'⟩,suc (eqf (fun m=>zjF m tx sp _ _ i (K (m+1)) k lo hi no lz rs x t) ?_),suc (eqf (fun m=>zl1 m tx g _ i k lo hi no lz rs x t _ r) ?_)⟩
  ·exact al (by rw[dff om,dff om];rfl) (ab ⟨sp,rfl,hE⟩)
  ·exact Tot.it (by rw[dtt hh.1,dtt hh.2];rfl) (ab rfl)
 ·have hr:Rel tx wh G Q (n'+1) i (fun m j st=>zzu m j i (c:Int) (k,lo,hi,no,lz,rs,x::t) (tx,st.2.1,st.2.2) (K (m+1))) [Rs.of (3,([]:List Pc),(k,lo,hi,no,lz,rs,x::t),i,((c+1:Nat):Int),r)]:=fun n2 j b g2 k1 k2 k3 k4 k5 k6=>by
   by_cases hj:j>i∨(c:Int)<lo
   ·obtain ⟨o,ho,a1,a2⟩:=hR n2 om k2 (c+1) j b g2 (fun m=>K (m+2)) r om (Int.le_trans h0 k3) k4 k5 k6 (hK.suc.suc.up om k3)
    refine ⟨o,ho,suc (eqf (fun m=>zl4 m tx b _ _ i (K (m+2)) k lo hi no lz rs x t j) (Tot.it ?_ (zzd (zzd ?_)))),suc (eqf (fun m=>zhv m tx j g2 _ i _ _ r []) (al ?_ (zz5 a2)))⟩
    ·rcases hj with hj | hj
     ·rw[dtt hj];rfl
     ·rw[dtt hj,Bool.or_true]
    ·rw[hw];exact a1
    ·by_cases he:j=i
     ·subst he
      rw[if_pos (by simp)]
      exact dff (by show ¬ (((c+1:Nat):Int)>lo);omega)
     ·rw[if_neg (by simpa using he)]
   ·have he:j=i:=by omega
    refine ⟨.no n2,⟨ai _,k2⟩,suc (eqf (fun m=>zl4 m tx b _ _ i (K (m+2)) k lo hi no lz rs x t j) (al ?_ (ab ⟨b,rfl,k5⟩))),suc (eqf (fun m=>zhv m tx j g2 _ i _ _ r []) (Tot.it ?_ (ab rfl)))⟩
    ·rw[dff om,dff om];rfl
    ·subst he
     rw[if_pos (by simp)]
     exact dtt (by show ((c+1:Nat):Int)>lo;omega)
  obtain ⟨o,ho,a1,a2⟩:=hT n' hn hn' wh Q x i sp g _ _ hs h0 h1 hE hW hr
  refine ⟨o,ho.le (Nat.le_succ _),suc (eqf (fun m=>zjF m tx sp _ _ i (K (m+1)) k lo hi no lz rs x t) (Tot.it ?_ (zzd (zzd a1)))),suc (eqf (fun m=>zl1 m tx g _ i k lo hi no lz rs x t _ r) (al ?_ (zz5 ?_)))⟩
  ·by_cases h:hi<0
   ·rw[dtt h];rfl
   ·rw[dtt (show (c:Int)<hi by omega),Bool.or_true]
  ·by_cases h:hi>=0
   ·rw[dff (show ¬ (c:Int)>=hi by omega),Bool.and_false]
   ·rw[dff h];rfl
  ·rw[hw];exact a2
theorem zmW {n':Nat} (hn:n<n') (hn':n'<=20000) (hR:∀ n2,n'<n2->n2<=20000->zn5 tx G wh Q (k,lo,hi,no,lz,rs,x::t) n2):zn5 tx G wh Q (k,lo,hi,no,lz,rs,x::t) n':=fun c i sp g K r hc h0 h1 hE hW hK=>by
 have d:∀ n3,n'<=n3->∀ n2,n3<n2->n2<=20000->zn5 tx G wh Q (k,lo,hi,no,lz,rs,x::t) n2:=fun n3 h n2 h'=>hR n2 om
 by_cases hl:(c:Int)<lo
 ·obtain ⟨o,ho,a1,a2⟩:=ztJ (Q:=Q) (wh:=wh) (k:=k) (lo:=lo) (hi:=hi) (no:=no) (lz:=lz) (rs:=rs) (t:=t) hT hs hn hn' hR c i sp g (fun m=>K (m+1)) r hc h0 h1 hE hW hK.suc
  exact ⟨o,ho,suc (eqf (fun m=>zin m tx sp _ _ i (K (m+1)) k lo hi no lz rs x t) (Tot.it (dtt hl) (zzd a1))),suc (eqf (fun m=>repB m tx g _ i k lo hi no lz rs x t _ r) (Tot.it (dtt hl) (zz5 a2)))⟩
 ·cases lz with
  | true=>
    obtain ⟨o1,b,b1,b2⟩:=hK n' i sp g (ai _) hn' (aj _) h1 hE hW
    obtain ⟨o,ho,a1,a2⟩:=zl9 (F2:=fun m s=>zzt m (k,lo,hi,no,true,rs,x::t) (c:Int) s i (K (m+1))) (G2:=fun m s=>zzp m s (k,lo,hi,no,true,rs,x::t) (c:Int) i g r) b (shf b1) b2 (fun n2 s2 k1 k2 k3=>ztJ hT hs om k2 (d n2 k1) c i s2 g (fun m=>K (m+1)) r om h0 h1 k3 hW (hK.suc.up k1 (aj _)))
    exact ⟨o,ho,suc (eqf (fun m=>zin m tx sp _ _ i (K (m+1)) k lo hi no true rs x t) (al (dff hl) a1)),suc (eqf (fun m=>repB m tx g _ i k lo hi no true rs x t _ r) (al (dff hl) a2))⟩
  | false=>
    obtain ⟨o1,b,b1,b2⟩:=ztJ (Q:=Q) (wh:=wh) (k:=k) (lo:=lo) (hi:=hi) (no:=no) (lz:=false) (rs:=rs) (t:=t) hT hs hn hn' hR c i sp g (fun m=>K (m+1)) r hc h0 h1 hE hW hK.suc
    obtain ⟨o,ho,a1,a2⟩:=zl9 (F2:=fun m s=>K (m+1) i s) (G2:=fun m s=>zzx m s r i g) b b1 b2 (fun n2 s2 k1 k2 k3=>hK.suc n2 i s2 g k1 k2 (aj _) h1 k3 hW)
    exact ⟨o,ho,suc (eqf (fun m=>zin m tx sp _ _ i (K (m+1)) k lo hi no false rs x t) (al (dff hl) a1)),suc (eqf (fun m=>repB m tx g _ i k lo hi no false rs x t _ r) (al (dff hl) a2))⟩
theorem znq:∀ (k' n':Nat),20000-n'<k'->n<n'->n'<=20000->zn5 tx G wh Q (k,lo,hi,no,lz,rs,x::t) n'
 | 0,n',h,_,_=>absurd h (Nat.not_lt_zero _)
 | k'+1,n',h,h2,h3=>zmW hT hs h2 h3 fun n2 h4 h5=>znq k' n2 om om h5
theorem zjD (hn:n<20000) {i:Int} {sp g:Sp} {K:Nat->Kt} {r:List Rs} (h0:0<=i) (h1:i<=(tx.length:Int)) (hE:E1 sp g) (hW:Wf G tx.length g) (hK:Rel tx wh G Q (n+1) i K r):zuQ tx G n wh Q (10,lo,hi,no,lz,rs,x::t) i sp g K r:=by
 obtain ⟨o,ho,a1,a2⟩:=znq (wh:=wh) (Q:=Q) (k:=10) (lo:=lo) (hi:=hi) (no:=no) (lz:=lz) (rs:=rs) (t:=t) hT hs (20000-n) (n+1) om om hn 0 i sp g (fun m=>K (m+1)) r om h0 h1 hE hW hK.suc
 exact ⟨o,ho,suc (eqf (fun m=>zkJ hn m tx sp lo hi no lz rs (x::t) i (K (m+1))) (zzd a1)),suc (eqf (fun m=>zkZ hn m tx wh lo hi no lz rs (x::t) i g r) (zz5 a2))⟩
end
theorem zly {tx:List Int} {G:Nat} {wh:Bool} {Q:Sp->Sp->Prop} {kd lo hi:Int} {no lz:Bool} {rs:List (Int × Int)} {subs:List Pc} {i:Int} {sp g:Sp} {K:Nat->Kt} {r:List Rs}:zuQ tx G 20000 wh Q (kd,lo,hi,no,lz,rs,subs) i sp g K r:=
 ⟨.over,trivial,suc (eqf (fun m=>zli m tx sp kd lo hi no lz rs subs i (K (m+1))) (ab rfl)),suc (eqf (fun m=>zmM m tx wh kd lo hi no lz rs subs i g r) (ab ⟨rfl,20001,rfl⟩))⟩
theorem zl0 {tx:List Int} {G:Nat} (hx:zjG tx) (hL:tx.length<=1000) (hG:G<=1000):∀ (k n:Nat),20000-n<k->n<=20000->zrl tx G (okT G) n
 | 0,n,h,_=>absurd h (Nat.not_lt_zero _)
 | k+1,n,h,hn=>fun wh Q p i sp g K r hp h0 h1 hE hW hK=>by
   have hT:∀ n',n<n'->n'<=20000->zrl tx G (okT G) n':=fun n' h1 h2=>zl0 hx hL hG k n' om h2
   obtain ⟨kd,lo,hi,no,lz,rs,subs⟩:=p
   have hk:=zmD hp
   have hs:=zk4 hp
   by_cases b:n=20000
   ·subst b
    exact zly
   ·replace hn:n<20000:=by omega
    have d:=hk.kind
    simp only[Pc.un]at d
    show zuQ tx G n wh Q (kd,lo,hi,no,lz,rs,subs) i sp g K r
    obtain h | h | h | h | h | h | h | h | h | h | h | h:kd=1∨kd=2∨kd=3∨kd=4∨kd=5∨kd=6∨kd=7∨kd=8∨kd=9∨kd=10∨kd=11∨kd=12:=by omega
    ·exact zjm hx hL hn h0 h1 hE hW hK (.inl h) hk.rng
    ·exact zjm hx hL hn h0 h1 hE hW hK (.inr (.inl h)) hk.rng
    ·exact zjm hx hL hn h0 h1 hE hW hK (.inr (.inr h)) hk.rng
    ·subst h;exact try_4 hn h0 h1 hE hW hK
    ·subst h;exact try_5 hn h0 h1 hE hW hK
    ·subst h;exact try_6 hL hn h0 h1 hE hW hK
    ·subst h
     have h7:=hk.g7 rfl
     cases subs with
     | nil=>exact absurd rfl h7.2.2
     | cons x t=>exact try_7 hG hn h0 h1 hE hW hK hT ⟨h7.1,h7.2.1⟩ (hs x (by simp))
    ·subst h;exact try_8 hn h0 h1 hE hW hK hT hs
    ·subst h;exact try_9 hn h0 h1 hW hT hs hk.sbs hK hE
    ·subst h
     cases subs with
     | nil=>exact absurd rfl (hk.g10 (.inl rfl))
     | cons x t=>exact zjD hT (hs x (by simp)) hn h0 h1 hE hW hK
    ·subst h
     cases subs with
     | nil=>exact absurd rfl (hk.g10 (.inr rfl))
     | cons x t=>exact ziQ hG hn h0 h1 hE hW hK hT (hs x (by simp))
    ·subst h;exact zi7 hL hn h0 h1 hE hW hK (hk.g12 rfl)
def clrF (N:Nat) (tx:List Int) (s31:Int × TSt):Option ((Int × TSt) ⊕ TSt):=
 (if (decide (s31.1<((N:Nat):Int))) then (Option.bind (idx s31.2.2.1 s31.1) fun x47=>(Option.bind (upd s31.2.2.1 s31.1 ((-1),(-1))) fun l49=>(some (.inl ((IntKind.i64.wrap (s31.1+1)),(tx,l49,s31.2.2.2)))))) else (some (.inr ((tx,s31.2.2.1,s31.2.2.2)))))
abbrev neg (k:Nat):Sp:=List.replicate k ((-1:Int),(-1:Int))
theorem zkm (N:Nat) (hN:N<=100000) (tx:List Int) (n:Int):∀ (rest:Sp) (k:Nat),k+rest.length=N->LT (fun _=>clrF N tx) ((k:Int),(tx,neg k++rest,n)) (· =(tx,neg N,n))
 | [],k,h=>by
   have h:k=N:=by simpa using h
   subst h
   refine LT.fin (r:=(tx,neg k++[],n)) (Tot.alln fun m=>?_) (by rw[ak])
   unfold clrF
   rw[if_neg (by simp)]
 | x::t,k,h=>by
   rw[af]at h
   have ih:=zkm N hN tx n t (k+1) om
   refine LT.step (Tot.alln fun m=>?_) ih
   unfold clrF
   have hk:k<(neg k++x::t).length:=by simp
   simp only[dtt (show (k:Int)<(N:Int) by omega),if_true,idx_nat,List.getElem?_eq_getElem hk,Option.bind_some,zuR hk,zzw (x:=(k:Int)+1) om om]
   rw[show (neg k++x::t).set k (-1, -1)=neg (k+1)++t by
    rw[List.set_append_right _ _ (by simp)]
    simp[neg,List.replicate_succ']]
   rfl
section
variable (m:Nat) (tx:List Int) (sp:Sp) (n:Int) (x:PcT) (i:Int) (wh:Bool)
theorem fromA:zzQ m (tx,sp,n) x i wh=(zzf (clrF sp.length tx) m (0,(tx,sp,n))).bind fun j=>zyu tx (zzz m (tx,j.2.1,j.2.2) x i (fun k st=>zzm m k i (tx,st.2.1,st.2.2) wh)):=rfl
end
def Qf (start:Int) (L:Nat) (wh:Bool) (sp g:Sp):Prop:=E1 sp g∧∃ k a,sp[0]? =some (start,k)∧g[0]? =some (a,k)∧start<=k∧k<=(L:Int)∧(wh=true->k=(L:Int))
abbrev rF:List Rs:=[Rs.of (0,([]:List Pc),(0,0,0,false,false,([]:List (Int × Int)),([]:List Pc)),0,0,([]:List Rs))]
theorem zkM {tx:List Int} {G:Nat} (hG:G<=1000) (wh:Bool) (n0:Nat) (start:Int):Rel tx wh G (Qf start tx.length wh) n0 start (fun m k st=>zzm m k start (tx,st.2.1,st.2.2) wh) rF:=fun n' k sp g h2 h3 h4 h5 h6 h7=>by
 have d:0<g.length:=by rw[h7.1];omega
 have b:0<sp.length:=by rw[h6.1];exact d
 have hi:idx sp 0=some sp[0]:=by rw[show (0:Int)=((0:Nat):Int) from rfl,idx_nat,List.getElem?_eq_getElem b]
 have hu:upd sp 0 (start,k)=some (sp.set 0 (start,k)):=zuR b (start,k)
 have hw:∀ m,zzg m g 0 0 k=some (g.set 0 (0,k)):=fun m=>zsn m d (by rw[h7.1];omega) 0 k
 have eA:∀ m,zzm m k start (tx,sp,(n':Int)) wh=some (.inl (!wh||(k==((tx.length:Nat):Int)),(tx,sp.set 0 (start,k),(n':Int)))):=fun m=>by
  unfold zzm
  simp only[hi,hu,Option.bind_some]
  cases wh<;>rfl
 have hA:E1 (sp.set 0 (start,k)) g:=(h6.symm.set0 _).symm
 cases hb:(!wh||(k==((tx.length:Nat):Int))) with
 | false=>
   rw[hb]at eA
   refine ⟨.no n',⟨ai _,h3⟩,an (Tot.alln eA) fun a e=>e ▸ ⟨_,rfl,hA⟩,suc (an (Tot.alln (a:=(([]:Sp),false,(tx,(n':Int),wh,false))) fun m=>?_) fun a e=>by subst e;exact rfl)⟩
   rw[zjh,if_pos]
   cases wh
   ·cases hb
   ·simpa using hb
 | true=>
   rw[hb]at eA
   refine ⟨.yes (g.set 0 (0,k)) n',⟨ai _,h3,h7.set0 _⟩,an (Tot.alln eA) fun a e=>e ▸ ⟨_,rfl,hA.set0 _,k,0,?_,?_,h4,h5,fun e=>?_⟩,suc (an (Tot.alln fun m=>?_) fun a e=>e)⟩
   ·rw[List.getElem?_set_self b]
   ·rw[List.getElem?_set_self d]
   ·subst e;simpa using hb
   ·rw[zjh,if_neg,hw]
    ·rfl
    ·cases wh
     ·simp
     ·simpa using hb
end Go.Gv.M
