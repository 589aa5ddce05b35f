import Derived.Test.YtmpmeiihjnnomaaGreatDoorGd
set_option linter.all false
namespace Go.Gv
open Go Go.RowKit
section
variable {P:Program} {R:RR} {n:Nat} {k:List It} {σ:List (Nat × Value)} {w:World} {all:Array Oper} {C:World->Prop} {o:Oper} {m:Mk} {rest:List (Oper × Mk)}
def zjK (n:Nat) (all:Array Oper) (σ:List (Nat × Value)) (o:Oper) (m:Mk):Bool:=m.isNone&&(zwY n o.dst&&((match zza all σ o with | some true=>true | _=>false)&&(zyQ o.op&&zyi σ o.op.operands.toList)))
theorem zrt (h:zjK n all σ o m=true):m=none∧zwY n o.dst=true∧zza all σ o=some true∧(zyQ o.op&&zyi σ o.op.operands.toList)=true:=by
 simp only[zjK,Bool.and_eq_true,Option.isNone_iff_eq_none]at h
 refine ⟨h.1,h.2.1,?_,by simp only[Bool.and_eq_true];exact h.2.2.2⟩
 have:=h.2.2.1
 split at this
 ·assumption
 ·cases this
theorem gv_new0 (f:Nat->Value) (cs:Array Value) (t:TypeId) (hb:zjK n all σ o m=true) (hx:(execOp (evr σ) o).run P w= .ok (.value (f w.heap.size)) (w.alloc (.cells cs t)))
 (h:∀ b w',w.grownBy w' none->Box w' b t cs->b=w.heap.size->w'.heap.size=w.heap.size+1->Run P R n (.ops all C rest::k) .normal (zuz σ o.dst (f b)) w'):
 Run P R n (.ops all C ((o,m)::rest)::k) .normal σ w:=by
 obtain ⟨rfl,h1,h2,h3⟩:=zrt hb
 exact gv_new f cs t (by decide) h1 h2 h3 hx fun b w' a1 a2 a3 a4=>⟨fun e=>(by cases e),h b w' a1 a2 a3 a4⟩
def oneB:List Value->Bool
 | []=>true
 | v::vs=>v.oneCell'&&oneB vs
theorem znC:∀ {l:List Value},oneB l=true->∀ u∈l,u.oneCell'=true
 | v::vs,h,u,hu=>by
   simp only[oneB,Bool.and_eq_true]at h
   rcases List.mem_cons.1 hu with e | e
   ·rw[e];exact h.1
   ·exact znC h.2 u e
theorem gv_store0 (t:TypeId) (off:Nat) (v:Value) {b:Nat} {t':TypeId} {cs:Array Value} (cs':Array Value) (hb:Box w b t' cs) (hB:zjK n all σ o m=true) (hop:execOp (evr σ) o=(do Instr.storeAt t (.pointer (some ⟨b,off,none⟩)) v;pure .skip))
 (hz:(((P.info? t).map (·.size),oneB v.cells.toList,Nat.ble (off+v.cells.toList.length) cs.size,znx cs off v):Option Nat × Bool × Bool × Array Value)=(some v.cells.size,true,true,cs'))
 (h:∀ w',w.grownBy w' (some b)->Box w' b t' cs'->w'.heap.size=w.heap.size->Run P R n (.ops all C rest::k) .normal (zuz σ o.dst undef) w'):
 Run P R n (.ops all C ((o,m)::rest)::k) .normal σ w:=by
 obtain ⟨rfl,h1,h2,h3⟩:=zrt hB
 obtain ⟨z1,z2⟩:=Prod.mk.inj hz
 obtain ⟨z2,z3⟩:=Prod.mk.inj z2
 obtain ⟨z3,z4⟩:=Prod.mk.inj z3
 exact gv_store cs' (by decide) h1 h2 h3 hop z1 (znC z2) (Nat.le_of_ble_eq_true z3) z4 hb fun w' a1 a2 a3=>⟨fun e=>(by cases e),h w' a1 a2 a3⟩
def zpK (n:Nat) (all:Array Oper) (σ:List (Nat × Value)) (o:Oper) (m:Mk):Bool:=m.isNone&&(zwY n o.dst&&(match zza all σ o with | some true=>true | _=>false))
theorem gv_call0 {x:Operand} {xs:Array Operand} {tys:Array TypeId} {f:FuncId} {vs:List Value} {S:Value->World->Prop} (hb:zpK n all σ o m=true)
 (ho:o.op= .call { callee:=.value x,args:=xs,argTypes:=tys}) (hx:(ev σ x,evs σ xs.toList)=(some (.func (.func f) #[] #[]),some vs)) (hf:Enters P f)
 (hc:Calls P f vs.toArray w (Ret S)) (h:∀ v w',S v w'->Run P R n (.ops all C rest::k) .normal (zuz σ o.dst v) w'):Run P R n (.ops all C ((o,m)::rest)::k) .normal σ w:=by
 simp only[zpK,Bool.and_eq_true,Option.isNone_iff_eq_none]at hb
 obtain ⟨rfl,h1,h2⟩:=hb
 have hg:zza all σ o=some true:=by
  split at h2
  ·assumption
  ·cases h2
 obtain ⟨e1,e2⟩:=Prod.mk.inj hx
 exact gv_call (cap:=[]) S (by decide) h1 hg ho e1 e2 hf (by rw[List.append_nil];exact hc) fun v w' hs=>⟨fun e=>(by cases e),h v w' hs⟩
end
theorem Own.rdF {α:Type} {E:Enc α} {e:TypeId} {w:World} {a:Option Addr} {cap:Nat} {xs:List α} (h:Own E e w (fun _=>False) a cap xs):Rd E w (fun k=>blk a=some k) a cap xs:=h.rd (fun _ h=>h.elim) (fun _ e=>e)
end Go.Gv
