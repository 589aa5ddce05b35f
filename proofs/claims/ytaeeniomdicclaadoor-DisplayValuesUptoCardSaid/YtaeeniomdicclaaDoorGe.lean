import Derived.Test.YtaeeniomdicclaaDoorGd
set_option linter.all false
namespace Go.Gv
open Go Go.RowKit
section
variable {P:Program} {R:RR} {n:Nat} {k:List It} {σ:List (Nat × Value)} {w:World} {all:Array Oper} {C:World->Prop} {o:Oper} {m:Mk} {rest:List (Oper × Mk)}
def zoX (n:Nat) (all:Array Oper) (σ:List (Nat × Value)) (o:Oper) (m:Mk):Bool:=m.isNone&&(zy9 n o.dst&&((match zzl all σ o with | some true=>true | _=>false)&&(zzB o.op&&zzO σ o.op.operands.toList)))
theorem zuJ (h:zoX n all σ o m=true):m=none∧zy9 n o.dst=true∧zzl all σ o=some true∧(zzB o.op&&zzO σ o.op.operands.toList)=true:=by
 simp only[zoX,Bool.and_eq_true,Option.isNone_iff_eq_none]at h
 refine ⟨h.1,h.2.1,?_,by simp only[Bool.and_eq_true];exact h.2.2.2⟩
 have:=h.2.2.1
 split at this
 ·assumption
 ·cases this
theorem gv_new0 (f:Nat->Value) (cs:Array Value) (t:TypeId) (hb:zoX n all σ o m=true) (hx:(execOp (evr σ) o).run P w= .ok (.value (f w.heap.size)) (w.alloc (.cells cs t)))
 (h:∀ b w',w.grownBy w' none->Box w' b t cs->b=w.heap.size->w'.heap.size=w.heap.size+1->Run P R n (.ops all C rest::k) .normal (zwT σ o.dst (f b)) w'):
 Run P R n (.ops all C ((o,m)::rest)::k) .normal σ w:=by
 obtain ⟨rfl,h1,h2,h3⟩:=zuJ hb
 exact gv_new f cs t (by decide) h1 h2 h3 hx fun b w' a1 a2 a3 a4=>⟨fun e=>(by cases e),h b w' a1 a2 a3 a4⟩
def oneB:List Value->Bool
 | []=>true
 | v::vs=>v.oneCell'&&oneB vs
theorem zrs:∀ {l:List Value},oneB l=true->∀ u∈l,u.oneCell'=true
 | v::vs,h,u,hu=>by
   simp only[oneB,Bool.and_eq_true]at h
   rcases List.mem_cons.1 hu with e | e
   ·rw[e];exact h.1
   ·exact zrs h.2 u e
theorem gv_store0 (t:TypeId) (off:Nat) (v:Value) {b:Nat} {t':TypeId} {cs:Array Value} (cs':Array Value) (hb:Box w b t' cs) (hB:zoX n all σ o m=true) (hop:execOp (evr σ) o=(do Instr.storeAt t (.pointer (some ⟨b,off,none⟩)) v;pure .skip))
 (hz:(((P.info? t).map (·.size),oneB v.cells.toList,Nat.ble (off+v.cells.toList.length) cs.size,zsF cs off v):Option Nat × Bool × Bool × Array Value)=(some v.cells.size,true,true,cs'))
 (h:∀ w',w.grownBy w' (some b)->Box w' b t' cs'->w'.heap.size=w.heap.size->Run P R n (.ops all C rest::k) .normal (zwT σ o.dst undef) w'):
 Run P R n (.ops all C ((o,m)::rest)::k) .normal σ w:=by
 obtain ⟨rfl,h1,h2,h3⟩:=zuJ hB
 obtain ⟨z1,z2⟩:=Prod.mk.inj hz
 obtain ⟨z2,z3⟩:=Prod.mk.inj z2
 obtain ⟨z3,z4⟩:=Prod.mk.inj z3
 exact gv_store cs' (by decide) h1 h2 h3 hop z1 (zrs z2) (Nat.le_of_ble_eq_true z3) z4 hb fun w' a1 a2 a3=>⟨fun e=>(by cases e),h w' a1 a2 a3⟩
def zsw (n:Nat) (all:Array Oper) (σ:List (Nat × Value)) (o:Oper) (m:Mk):Bool:=m.isNone&&(zy9 n o.dst&&(match zzl all σ o with | some true=>true | _=>false))
theorem gv_call0 {x:Operand} {xs:Array Operand} {tys:Array TypeId} {f:FuncId} {vs:List Value} {S:Value->World->Prop} (hb:zsw n all σ o m=true)
 (ho:o.op= .call { callee:=.value x,args:=xs,argTypes:=tys}) (hx:(ev σ x,evs σ xs.toList)=(some (.func (.func f) #[] #[]),some vs)) (hf:Enters P f)
 (hc:Calls P f vs.toArray w (Ret S)) (h:∀ v w',S v w'->Run P R n (.ops all C rest::k) .normal (zwT σ o.dst v) w'):Run P R n (.ops all C ((o,m)::rest)::k) .normal σ w:=by
 simp only[zsw,Bool.and_eq_true,Option.isNone_iff_eq_none]at hb
 obtain ⟨rfl,h1,h2⟩:=hb
 have hg:zzl all σ o=some true:=by
  split at h2
  ·assumption
  ·cases h2
 obtain ⟨e1,e2⟩:=Prod.mk.inj hx
 exact zrh (cap:=[]) S (by decide) h1 hg ho e1 e2 hf (by rw[List.append_nil];exact hc) fun v w' hs=>⟨fun e=>(by cases e),h v w' hs⟩
end
theorem xl {X:Nat->Prop} {n m:Nat} (h:∀ k,X k->k<n) (hl:n<=m):∀ k,X k->k<m:=fun k hk=>Nat.lt_of_lt_of_le (h k hk) hl
theorem Own.rdF {α:Type} {E:Enc α} {e:TypeId} {w:World} {a:Option Addr} {cap:Nat} {xs:List α} (h:Own E e w (fun _=>False) a cap xs):Rd E w (fun k=>blk a=some k) a cap xs:=h.rd (fun _ h=>h.elim) (fun _ e=>e)
end Go.Gv
