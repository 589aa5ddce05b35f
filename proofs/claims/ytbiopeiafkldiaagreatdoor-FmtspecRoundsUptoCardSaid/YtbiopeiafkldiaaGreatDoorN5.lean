import Derived.Test.YtbiopeiafkldiaaGreatDoorV1
set_option linter.all false
namespace Go.Gv.P
open Go Go.Gv Go.Gv.D Go.Gv.R Go.Lib
open Go.Gv.RI (val Dg Nz OkL OkI OkN vb Db IsB Ok3 HalveD_tot vb_big vb_bound vb_mono h16 vbits b2 Trim)
set_option maxRecDepth 100000
/-! ### the reference's rounding -/
theorem TimesL_tot {a b:List Int} (ha:Ok3 a) (hb:Ok3 b) (la:a.length≤20000) (lb:b.length≤20000):Tot (fun fuel=>ref3_Times fuel a b) (fun r=>Ok3 r∧vb 65536 r=vb 65536 a*vb 65536 b∧r.length≤a.length+b.length):=by
 refine (RI.Times_tot ha hb la lb).mono fun r ⟨r1,r2⟩=>⟨r1,r2,len16 r1 ?_⟩
 replace r2:vb 65536 r=vb 65536 a*vb 65536 b:=r2
 rw[r2,Int.pow_add]
 have h1:=vb_bound h16 ha.1
 have h2:=vb_bound h16 hb.1
 have h3:vb 65536 a*vb 65536 b≤vb 65536 a*65536^b.length:=Int.mul_le_mul_of_nonneg_left om h1.1
 have h4:(0:Int)<65536^b.length:=Int.pow_pos ddc
 have h5:vb 65536 a*65536^b.length<65536^a.length*65536^b.length:=Int.mul_lt_mul_of_pos_right h1.2 h4
 omega
end Go.Gv.P
namespace Go.Gv.P
open Go Go.Gv Go.Gv.D Go.Gv.R Go.Lib
open Go.Gv.RI (val Dg Nz OkL OkI OkN vb Db IsB Ok3 HalveD_tot vb_big vb_bound vb_mono h16 vbits b2 Trim)
set_option maxRecDepth 100000
/-! ### the reference's groups and points -/
/-- a number with a point -/
def pnt (N:Int) (pl:Nat) (g:Int):List UInt8:=point pl (padZ pl (wn 10 N)) (grp g 3 ((padZ pl (wn 10 N)).take ((padZ pl (wn 10 N)).length-pl)))
end Go.Gv.P
namespace Go.Gv.P
open Go Go.Gv Go.Gv.D Go.Gv.R Go.Lib
open Go.Gv.RI (val Dg Nz OkL OkI OkN vb Db IsB Ok3 HalveD_tot vb_big vb_bound vb_mono h16 vbits b2 Trim)
set_option maxRecDepth 100000
/-! ### the first digit's exponent, and numbers with an exponent -/
theorem IsB10:IsB 10:=.inr (.inr (.inl rfl))
theorem tenp (n:Nat):(0:Int)<10^n:=Int.pow_pos ddc
theorem wn_bounds {V:Int} (h:0<V):10^((wn 10 V).length-1)≤V∧V<10^(wn 10 V).length∧1≤(wn 10 V).length:=by
 obtain ⟨d1,d2,d3⟩:=dl_ok (B:=10) ddc (Int.le_of_lt h)
 have hne:dl 10 V≠[]:=fun e=>by have:=(dl_nil (B:=10) ddc (Int.le_of_lt h)).1 e;omega
 have hl:(wn 10 V).length=(dl 10 V).length:=by unfold wn;rw[if_neg om];simp
 have h1:=vb_big ddc d1 d3 hne
 have h2:=(vb_bound (b:=10) ddc d1).2
 rw[d2]at h1 h2
 rw[hl]
 exact ⟨h1,h2,List.length_pos_iff.2 hne⟩
/-- 10^f is at most a / b -/
def Q (a b f:Int):Prop:=scB b (-f)≤scA a (-f)
end Go.Gv.P
namespace Go.Gv.P
open Go Go.Gv Go.Gv.D Go.Gv.R Go.Lib
open Go.Gv.RI (val Dg Nz OkL OkI OkN vb Db IsB Ok3 HalveD_tot vb_big vb_bound vb_mono h16 vbits b2 Trim)
set_option maxRecDepth 100000
/-! ### numbers with an exponent -/
theorem wn_itoa:(List.range 1400).all (fun n=>wn 10 (n:Int)==itoa (n:Int))=true:=by kernel_rfl
end Go.Gv.P
namespace Go.Gv.P
open Go Go.Gv Go.Gv.D Go.Gv.R Go.Lib
set_option maxRecDepth 100000
/-! ### what is read is well-formed; filling -/
theorem cat3 {p q:List Nat} (h:(enc p).length+(enc q).length≤9223372036854775807):cat (strOf (enc p)) (strOf (enc q))=some (strOf (enc (p++q))):=by
 rw[cat_str h,enc_app]
end Go.Gv.P
