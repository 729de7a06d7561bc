/-
  (*House).temper at a ring that has a best temperament; conditions: the cells hold a house with such a ring, the tables lie below a block. row of frequencies, (*House).scale where the scale is there; conditions: the cells hold a house with steps, the tables lie below a block. (*House).sounded, (*House).scale where the scale is there; conditions: the cells hold a house with steps, the tables lie below a block.
-/
import Derived.Test.YtjibohkeapdalaaGreatDoorEa
import Derived.Test.YtjibohkeapdalaaGreatDoorCd
import Derived.StillTailTactics
import Derived.Lib.SliceRun
import Derived.Deep.RegionHeld3
namespace Go.Proofs.YtjibohkeapdalaaGreatDoor
set_option maxHeartbeats 8000000
set_option maxRecDepth 8000
section
section
open Go.RowKit Go.Shelf
def stepsW:List UInt8:=[115,116,101,112,115]
def costW:List UInt8:=[99,111,115,116]
theorem row_len{wd:List UInt8}{l:List Int}(h:∀ x∈l,i64B x):(rowL wd l).length<=wd.length+22*l.length:=by
 unfold rowL
 rw[List.length_append]
 have:(l.flatMap λx=>32 :: Lib.itoa x).length<=22*l.length:=by
  induction l with
  |nil=>simp
  |cons a l ih =>
   have h1:=Lib.itoa_length_le a (h a List.mem_cons_self).1 (h a List.mem_cons_self).2
   have h2:=ih λx hx=>h x (List.mem_cons_of_mem _ hx)
   rw[List.flatMap_cons,List.length_append,List.length_cons,List.length_cons]
   omega
 omega
theorem ans_two{W:World}{b:Nat}{l1 l2:List UInt8}(h:SlE strE 1 W (some ⟨b,0,none⟩) 2 [⟨l1.toArray⟩,⟨l2.toArray⟩])(h1:l1.length<=1000000)(h2:l2.length<=1000000):AnsT (linesL [l1,l2]) (.iface 387 (.slice (some ⟨b,0,none⟩) 2 2)) W:=
 .inr ⟨_,2,2,_,rfl,h,by omega,by omega,by simp[linesL];omega,rfl⟩
theorem isl_house{W:World}{F:Nat->Prop}{h i:Nat}{C:Array Value}{A:Option Addr}{n c:Nat}{l:List Int}{v:Value}(hh:HB W F h C)(hi:ISl W F A n c l):ISl (W.setCell ⟨h,i,none⟩ v) F A n c l:=
 hi.keep (by rw[hsize_set];exact Nat.le_refl _) λj D hD=>hset_ne λe=>by
  rw[e,hh.box] at hD
  simp only[Option.some.injEq,Obj.cells.injEq] at hD
  exact absurd hD.2.1 (by decide)
theorem rgP_house{W:World}{F:Nat->Prop}{h i rb:Nat}{C:Array Value}{x:Rn}{fi th:List Int}{v:Value}(hh:HB W F h C)(hi:RgP W F rb x fi th):RgP (W.setCell ⟨h,i,none⟩ v) F rb x fi th:=by
 obtain⟨h1,A,n,c,B,m,d,h2,h3,h4⟩:=hi
 refine⟨h1,A,n,c,B,m,d,(hset_ne λe=>?_).trans h2,isl_house hh h3,isl_house hh h4⟩
 rw[e,hh.box] at h2
 simp only[Option.some.injEq,Obj.cells.injEq] at h2
 exact absurd h2.2.1 (by decide)
theorem RgP.below{W w:World}{F:Nat->Prop}{rb:Nat}{x:Rn}{fi th:List Int}(h:RgP W F rb x fi th)(k:Below W.heap.size W w):RgP w F rb x fi th:=by
 obtain⟨h1,A,n,c,B,m,d,h2,h3,h4⟩:=h
 exact⟨h1,A,n,c,B,m,d,(k.block _ (Array.getElem?_eq_some_iff.1 h2).1).trans h2,h3.below k,h4.below k⟩
theorem htemper_any(w:World)(F:Nat->Prop)(h:Nat)(C:Array Value)(hh:HB w F h C)(hu:Up w F)(A1:Option Addr)(n1 c1:Nat)(A2:Option Addr)(n2 c2:Nat)(r:Rg)(hr:r.Ok)(rb:Nat)(hC1:C[1]?=some (.pointer (some ⟨rb,0,none⟩)))(hrg:RgP w F rb ⟨r.N,r.S,r.low,r.high,r.total,r.pure,r.worst⟩ r.fi r.th)(st:List Int)(cs:Int)(hbest:r.Best st cs)(hst:∀ x∈st,i64B x)(hcs:i64B cs)(bg:Nat)(hg:Gl bg w)(hb:bg<=w.heap.size)(hF:∀ j,F j->bg<=j) :
 Calls Tryz.prog 142 #[.pointer (some ⟨h,0,none⟩),.agg #[.slice A1 n1 c1,.slice A2 n2 c2]] w λe w'=>∃ v,e=.returned v/\AnsT (linesL [rowL stepsW st,rowL costW [cs]]) v w'/\(∃ A c,HB w' F h (C.setIfInBounds 2 (.slice A r.N c))/\ISl w' F A r.N c st)/\RgP w' F rb ⟨r.N,r.S,r.low,r.high,r.total,r.pure,r.worst⟩ r.fi r.th/\Kx (λj=>j=h) w w':=by
 refine calls_cps ?_
 intro R hR
 obtain⟨w1,hw1⟩:∃ w1,w.alloc (.cells #[.slice A1 n1 c1,.slice A2 n2 c2] 182)=w1:=⟨_,rfl⟩
 have hbl:=below_new w (.cells #[.slice A1 n1 c1,.slice A2 n2 c2] 182)
 rw[hw1] at hbl
 have HW1:=zh hw1
 have HBL:=zh hbl
 have HRg:=zh hrg
 obtain⟨hF1,A,n,c,B,m,d,hrb,hi1,hi2⟩:=hrg
 have hlt:rb<w.heap.size:=(Array.getElem?_eq_some_iff.1 hrb).1
 have hrb1:=(hbl.block rb hlt).trans hrb
 obtain⟨t0,t1,t2,t3,t4,t5,t6,t7,t8,-⟩:=rg_cells hrb1
 have hh1:=hh.below hbl
 obtain⟨k1,-⟩:=hh1.at hC1
 have HI1:=zh (hi1.below hbl)
 have HI2:=zh (hi2.below hbl)
 have HBs:=zh (callsIn_wide.1 (best_ok 6 (Nat.le_refl _) r hr A B n c m d w1 HI1.out.sl HI2.out.sl))
 have HRb:=zh hrb1
 have HH1:=zh hh1
 have HBest:=zh hbest
 have HU:=zh hu
 have HG:=zh hg
 have Hst:=zh hst
 have Hr:=zh hR.out
 have hN24:r.N<=24:=hr.n2
 have HN:=zh hbest.good.len
 clear hR hw1 hbl hi1 hi2 hrb hrb1 hh hh1 hbest hu hg hst hr
 go_enter Tryz.func142,Tryz.ntmps142
 go_upto_region 1 with fail
 rw[HW1.out]
 go_wp2_with fail
 refine HBs.out.mono ?_
 rintro e w2 ⟨he|⟨st',cs',A',c',rfl,hB',ho'⟩,hb2⟩
 ·exact absurd HBest.out.good (he.2 st)
 obtain⟨rfl,rfl⟩:=Rg.Best.uniq hB' HBest.out
 have hh2:=HH1.out.below hb2
 obtain⟨v2,hv2⟩:∃ v2,C[2]?=some v2:=⟨C[2]'(by rw[HH1.out.sz];decide),by rw[Array.getElem?_eq_getElem]⟩
 obtain⟨k2,f2⟩:=hh2.at hv2
 have HH2:=zh hh2
 have HO2:=zh ho'
 have HB2:=zh hb2
 have HV2:=zh hv2
 clear hb2 hh2 ho' hB' HBs t0 t1 t2 t3 t4 t5 t6 t7 t8 k1 hv2
 go_wp2_with fail
 have hlt2:=HH2.out.lt
 obtain⟨V,hV⟩:∃ V,w2.setCell ⟨h,2,none⟩ (.slice A' r.N c')=V:=⟨_,rfl⟩
 have HV:=zh (show HB V F h (C.setIfInBounds 2 (.slice A' r.N c')) from hV ▸ HH2.out.set (by decide) _)
 have hsz12:=Nat.le_trans HBL.out.size HB2.out.size
 have HIV:=zh (show ISl V F A' r.N c' st' from hV ▸ isl_house HH2.out (ISl.of_own HO2.out HN.out.symm (λg hg=>HU.out g (Nat.le_trans HBL.out.size (own_ge HO2.out hg)))))
 have HRV:=zh (show RgP V F rb ⟨r.N,r.S,r.low,r.high,r.total,r.pure,r.worst⟩ r.fi r.th from hV ▸ rgP_house HH2.out ((HRg.out.below HBL.out).below HB2.out))
 have HKV:=zh (show Kx (λj=>j=h) w V from hV ▸ (kx_of_below (HBL.out.trans (HB2.out.mono HBL.out.size))).trans (kx_put w2 h 2 _) (λ_ _ e=>e))
 have HGV:=zh (HG.out.kx HKV.out (λj e=>by subst e;exact hF _ HH2.out.own) hb)
 have hbV:=Nat.le_trans hb HKV.out.size
 rw[hV]
 have HRow:=zh (row_any ⟨stepsW.toArray⟩ A' r.N c' st' V HIV.out.sl (by omega) (by decide) Hst.out bg HGV.out hbV)
 clear hV HV2 HO2 HH2 HB2 HH1 HRb HI1 HI2
 refine HRow.out.mono ?_
 rintro e w3 ⟨rfl,hb3⟩
 have HB3:=zh hb3
 have HB4:=zh (hb3.trans ((below_new w3 (.cells #[.int .i64 cs'] 3)).mono hb3.size))
 have HRow2:=zh (row_any ⟨costW.toArray⟩ (some ⟨w3.heap.size,0,none⟩) 1 1 [cs'] (w3.alloc (.cells #[.int .i64 cs'] 3)) ⟨rfl,by have h:=Sl.newAt w3 #[.int .i64 cs'] 3 1 1 rfl rfl;exact h⟩ (by omega) (by decide) (λx hx=>by rw[List.mem_singleton] at hx;subst hx;exact hcs) bg (HGV.out.on (HB4.out.mono hbV)) (Nat.le_trans hbV HB4.out.size))
 have hl1:=row_len (wd:=stepsW) Hst.out
 rw[HN.out] at hl1
 have hl2:(rowL costW [cs']).length<=4+22*1:=row_len (wd:=costW) (l:=[cs']) (λx hx=>by rw[List.mem_singleton] at hx;subst hx;exact hcs)
 have hl3:stepsW.length=5:=rfl
 clear hb3 HRow
 go_wp2_with fail
 refine HRow2.out.mono ?_
 rintro e w5 ⟨rfl,hb5⟩
 have HB5:=zh (HB4.out.trans (hb5.mono HB4.out.size))
 have hx6:=str_new w5 [⟨(rowL stepsW st').toArray⟩,⟨(rowL costW [cs']).toArray⟩]
 have HB6:=zh (HB5.out.trans ((below_new w5 (.cells #[.string ⟨(rowL stepsW st').toArray⟩,.string ⟨(rowL costW [cs']).toArray⟩] 9)).mono HB5.out.size))
 have hfin:=Hr.out (.returned (.iface 387 (.slice (some ⟨w5.heap.size,0,none⟩) 2 2))) (w5.alloc (.cells #[.string ⟨(rowL stepsW st').toArray⟩,.string ⟨(rowL costW [cs']).toArray⟩] 9)) ⟨_,rfl,ans_two hx6 (by omega) (by omega),⟨A',c',HV.out.below HB6.out,HIV.out.below HB6.out⟩,HRV.out.below HB6.out,HKV.out.below HB6.out⟩
 have HFin:=zh hfin
 clear hb5 hx6 hfin Hr HRow2
 go_wp2_with fail
 exact HFin.out
end
end
section
section
open Go.RowKit Go.Shelf
theorem u64E_lenK(x:Nat):(u64E x).length=1:=rfl
theorem SlE.at64{w:World}{A:Option Addr}{n k:Nat}{l:List Nat}(h:SlE u64E 1 w A n l)(hk:k<n):∃ b o x,A=some ⟨b,o,none⟩/\b<w.heap.size/\l[k]?=some x/\w.cell? ⟨b,o+k,none⟩=some (.int .u64 (x:Nat)):=by
 obtain⟨b,o,x,hA,hb,hx,hc⟩:=h.at_ u64E_lenK hk
 refine⟨b,o,x,hA,hb,hx,?_⟩
 have:=hc 0 _ rfl
 rwa [Nat.mul_one,Nat.add_zero] at this
def natL(l:List Nat):List Int:=l.map λ(x:Nat)=>(x:Int)
theorem row64_any(wd:ByteArray)(A:Option Addr)(n c:Nat)(l:List Nat)(w:World)(h:SlE u64E 1 w A n l)(hn:n<=1000)(hw:wd.size<=1000000)(hl:∀ x∈l,x<4611686018427387904)(b:Nat)(hg:Gl b w)(hb:b<=w.heap.size) :
 Calls Tryz.prog 332 #[.string wd,.slice A n c] w λe w'=>e=.returned (.string ⟨(rowL wd.data.toList (natL l)).toArray⟩)/\Below w.heap.size w w':=by
 refine calls_cps ?_
 intro R hR
 have HX:=zh h
 have HL:=zh hl
 have HG:=zh hg
 have Hr:=zh (λ(s:ByteArray) w' (hs:s.data.toList=rowL wd.data.toList (natL l)) hb=>hR.out (.returned (.string s)) w' ⟨by rw[ba_of hs],hb⟩)
 have Hn:=zh h.1
 clear hR h hl hg
 go_enter Tryz.func332,Tryz.ntmps332
 go_wp2_with fail
 go_loopw [0,9] (λs0 s9 wr=>∃ (k:Nat) (s:ByteArray),k<=n/\s9=.int .i64 (k:Int)/\s0=.string s/\s.size<=wd.size+22*k/\Hid (s.data.toList=rowL wd.data.toList (natL (l.take k)))/\Hid (Below w.heap.size w wr)) (λ_ s9 _=>n-(intOf s9).toNat)
 case atStart=>exact⟨0,wd,Nat.zero_le _,rfl,rfl,by omega,zh (by simp[rowL,natL]),zh (Below.refl _ _)⟩
 case round =>
  obtain⟨k,s,hk,rfl,rfl,hsz,Hs,Hb⟩:=hrel
  by_cases hlt:k<n
  ·obtain⟨b0,o,x,rfl,hb0,hx,q0⟩:=(HX.out.below Hb.out).at64 hlt
   have hx1:=HL.out x (List.mem_of_getElem? hx)
   have x1:(-9223372036854775808:Int)<=(x:Int):=by omega
   have x2:(x:Int)<=9223372036854775807:=by omega
   have i1:(k:Int)<(n:Int):=by omega
   have Hx:=zh (show (natL l)[k]?=some (x:Int) by unfold natL;rw[List.getElem?_map,hx];rfl)
   have hil:=Lib.itoa_length_le (x:Int) x1 x2
   have z1:¬ 9223372036854775807<1+(Lib.itoa (x:Int)).length:=by omega
   have z2:¬ 9223372036854775807<s.size+(1+(Lib.itoa (x:Int)).length):=by omega
   have HF:=zh (fmt_any (x:Int) wr x1 x2 b (HG.out.on (Hb.out.mono hb)))
   clear hx
   go_wp2_with (go_at_call 331;(with_reducible refine HF.out.mono ?_);rintro e w2 ⟨rfl,hb2⟩;have HB2:=zh hb2;clear hb2)
   refine⟨⟨k+1,_,hlt,by go_num,rfl,by rw[row_size];omega,zh ?_,zh (Hb.out.trans (HB2.out.mono Hb.out.size))⟩,by simp[intOf]<;>omega⟩
   have ht:natL (l.take (k+1))=(natL l).take (k+1):=by unfold natL;rw[List.map_take]
   have ht0:natL (l.take k)=(natL l).take k:=by unfold natL;rw[List.map_take]
   rw[ht,rowL_take Hx.out,← ht0,← Hs.out,ba_app,ba_app]
   rfl
  ·have hkn:k=n:=by omega
   subst hkn
   have i1:¬ (k:Int)<(k:Int):=by omega
   have hf:=Hr.out s wr (by rw[Hs.out,List.take_of_length_le (by rw[← Hn.out];exact Nat.le_refl _)]) Hb.out
   have HF:=zh hf
   clear Hr hf Hs Hb
   go_wp2
   exact HF.out
end
end
section
section
open Go.RowKit Go.Shelf
def freqW:List UInt8:=[102,114,101,113]
theorem sounded_any(w:World)(F:Nat->Prop)(h:Nat)(C:Array Value)(hh:HB w F h C)(B:Nat)(A1:Option Addr)(n1 c1:Nat)(A2:Option Addr)(n2 c2:Nat)(ws:List (List UInt8))(base:Nat)(hA:ArgsW B w A1 n1 c1 A2 n2 c2 ws [(base:Int),12])(hb9:base<1000000000000)(sb so n c:Nat)(hC2:C[2]?=some (.slice (some ⟨sb,so,none⟩) n c))(M:List Nat)(hM:∀ x∈M,x<4611686018427387904)(hMl:M.length<=1000)
 (hsc:∀ W,Below w.heap.size w W->Calls Tryz.prog 11 #[.int .u64 (base:Nat),.slice (some ⟨sb,so,none⟩) n c,.int .i64 12] W λe w'=>∃ LA lc,e=.returned (.tuple #[.slice LA M.length lc,.int .i64 0])/\SlE u64E 1 w' LA M.length M/\Below W.heap.size W w') (bg:Nat) (hg:Gl bg w) (hb:bg<=w.heap.size) :
 Calls Tryz.prog 259 #[.pointer (some ⟨h,0,none⟩),.agg #[.slice A1 n1 c1,.slice A2 n2 c2],.string ⟨#[102,114,101,113]⟩,.func (.func 11) #[] #[]] w λe w'=>∃ v,e=.returned v/\AnsT (linesL [rowL freqW (natL M)]) v w'/\Below w.heap.size w w':=by
 refine calls_cps ?_
 intro R hR
 have l2:=hA.l2
 simp only[List.length_cons,List.length_nil,Nat.zero_add,Nat.reduceAdd] at l2
 subst l2
 obtain⟨w1,hw1⟩:∃ w1,w.alloc (.cells #[.slice A1 n1 c1,.slice A2 2 c2] 182)=w1:=⟨_,rfl⟩
 have hbx:=heap_alloc_new w (.cells #[.slice A1 n1 c1,.slice A2 2 c2] 182)
 have hbl:=below_new w (.cells #[.slice A1 n1 c1,.slice A2 2 c2] 182)
 rw[hw1] at hbx hbl
 have HW1:=zh hw1
 have HBL:=zh hbl
 have hA1:=hA.below hbl
 obtain⟨bi,oi,x0,rfl,hbi,hx0,p0⟩:=hA1.s2.at1 (k:=0) (by omega)
 obtain⟨bi',oi',x1,e1,-,hx1,p1⟩:=hA1.s2.at1 (k:=1) (by omega)
 cases e1
 simp only[List.getElem?_cons_zero,List.getElem?_cons_succ,Option.some.injEq] at hx0 hx1
 subst hx0 hx1
 rw[Nat.add_zero] at p0
 obtain⟨d0,d1,-⟩:=cells2 hbx
 obtain⟨k2,-⟩:=(hh.below hbl).at hC2
 have hlt1:=(hh.below hbl).lt
 have Hlt:=zh (Array.getElem?_eq_some_iff.1 hbx).1
 have hnil:=λ(W:World)=>Lib.run_eql_slice_nil (P:=Tryz.prog) W 22 3 (some ⟨sb,so,none⟩) n c 0 0 Tryz.underlying22
 have hbd:Below w.heap.size w w1.drew:=hbl.trans ((below_drewn (w:=w1) 1).mono hbl.size)
 have hwr:IntKind.u64.wrap (base:Int)=(base:Int):=by rw[IntKind.wrap_u64];omega
 have hsc1:=hsc w1.drew hbd
 rw[← hwr] at hsc1
 have HSc:=zh hsc1
 have HBD:=zh hbd
 have HG:=zh hg
 have HM:=zh hM
 have Hr:=zh hR.out
 have i0:¬ (base:Int)<0:=by omega
 clear hR hA hA1 hbx hbl hh hw1 hbd hg hsc hM hsc1 hwr
 go_enter Tryz.func259,Tryz.ntmps259
 go_upto_region 1 with fail
 rw[HW1.out]
 go_upto_region 5 with fail
 have hq1:w.heap.size<w1.heap.size:=Hlt.out
 go_region_held3 (λw'=>w'.cell? ⟨w.heap.size,1,none⟩=some (.slice (some ⟨bi,oi,none⟩) 2 c2)/\w'.cell? ⟨bi,oi,none⟩=some (.int .i64 (base:Int))/\w'.cell? ⟨bi,oi+1,none⟩=some (.int .i64 12)/\w'.cell? ⟨h,2,none⟩=some (.slice (some ⟨sb,so,none⟩) n c))
  (first|exact⟨d1,p0,p1,k2⟩|exact HS2.out|go_keep)
  (first
  |(go_at_call 11;go_loud (refine HSc.out.mono ?_;rintro e w2 ⟨LA,lc,rfl,hx2,hb2⟩;have HX2:=zh hx2;have HB2:=zh hb2;have HS2:=zh (show w2.cell? ⟨w.heap.size,1,none⟩=some (.slice (some ⟨bi,oi,none⟩) 2 c2)/\w2.cell? ⟨bi,oi,none⟩=some (.int .i64 (base:Int))/\w2.cell? ⟨bi,oi+1,none⟩=some (.int .i64 12)/\w2.cell? ⟨h,2,none⟩=some (.slice (some ⟨sb,so,none⟩) n c) from ⟨(hb2.cell (p:=⟨w.heap.size,1,none⟩) hq1).trans d1,(hb2.cell (p:=⟨bi,oi,none⟩) hbi).trans p0,(hb2.cell (p:=⟨bi,oi+1,none⟩) hbi).trans p1,(hb2.cell (p:=⟨h,2,none⟩) hlt1).trans k2⟩);clear hx2 hb2)))
 have hbg2:bg<=w2.heap.size:=Nat.le_trans hb (Nat.le_trans HBD.out.size HB2.out.size)
 have HB02:=zh (HBD.out.trans (HB2.out.mono HBD.out.size))
 have HRow:=zh (row64_any ⟨freqW.toArray⟩ LA M.length lc M w2 HX2.out hMl (by decide) HM.out bg (HG.out.on (HB02.out.mono hb)) hbg2)
 have hrl:=row_len (wd:=freqW) (l:=natL M) (λx hx=>by
  obtain⟨y,hy,rfl⟩:=List.mem_map.1 hx
  have:=HM.out y hy
  exact⟨by omega,by omega⟩)
 rw[show (natL M).length=M.length from List.length_map _] at hrl
 have hfl:freqW.length=4:=rfl
 obtain⟨S,hS⟩:∃ S:ByteArray,(⟨(rowL freqW (natL M)).toArray⟩:ByteArray)=S:=⟨_,rfl⟩
 have HS:=zh hS
 rw[show (⟨freqW.toArray⟩:ByteArray).data.toList=freqW from rfl,hS] at HRow
 have HEi:=zh (λW (b:Nat)=>either_any 0 (some ⟨b,0,none⟩) 1 1 W)
 clear p0 p1 d0 d1 k2 hnil HS2 HSc hS
 go_wp2_with fail
 refine HRow.out.mono ?_
 rintro e w3 ⟨rfl,hb3⟩
 have HB3:=zh (HB02.out.trans (hb3.mono HB02.out.size))
 have hx4:=str_new w3 [S]
 have HX4:=zh hx4
 have HB4:=zh (HB3.out.trans ((below_new w3 (.cells #[.string S] 9)).mono HB3.out.size))
 clear hb3 hx4 HRow
 go_wp2_with fail
 refine (HEi.out _ _).mono ?_
 rintro e w4 ⟨rfl,rfl⟩
 have hfin:=Hr.out (.returned (.iface 387 (.slice (some ⟨w3.heap.size,0,none⟩) 1 1))) (w3.alloc (.cells #[.string S] 9)) ⟨_,rfl,.inr ⟨_,1,1,[S],rfl,HX4.out,by decide,by decide,by
  rw[← HS.out]
  simp[linesL]
  omega,by rw[← HS.out];rfl⟩,HB4.out⟩
 have HFin:=zh hfin
 clear hfin Hr HEi
 go_wp2_with fail
 exact HFin.out
theorem hscale_any(w:World)(F:Nat->Prop)(h:Nat)(C:Array Value)(hh:HB w F h C)(B:Nat)(A1:Option Addr)(n1 c1:Nat)(A2:Option Addr)(n2 c2:Nat)(ws:List (List UInt8))(base:Nat)(hA:ArgsW B w A1 n1 c1 A2 n2 c2 ws [(base:Int),12])(hb9:base<1000000000000)(sb so n c:Nat)(hC2:C[2]?=some (.slice (some ⟨sb,so,none⟩) n c))(M:List Nat)(hM:∀ x∈M,x<4611686018427387904)(hMl:M.length<=1000)
 (hsc:∀ W,Below w.heap.size w W->Calls Tryz.prog 11 #[.int .u64 (base:Nat),.slice (some ⟨sb,so,none⟩) n c,.int .i64 12] W λe w'=>∃ LA lc,e=.returned (.tuple #[.slice LA M.length lc,.int .i64 0])/\SlE u64E 1 w' LA M.length M/\Below W.heap.size W w') (bg:Nat) (hg:Gl bg w) (hb:bg<=w.heap.size) :
 Calls Tryz.prog 144 #[.pointer (some ⟨h,0,none⟩),.agg #[.slice A1 n1 c1,.slice A2 n2 c2]] w λe w'=>∃ v,e=.returned v/\AnsT (linesL [rowL freqW (natL M)]) v w'/\Below w.heap.size w w':=by
 refine calls_cps ?_
 intro R hR
 obtain⟨w1,hw1⟩:∃ w1,w.alloc (.cells #[.slice A1 n1 c1,.slice A2 n2 c2] 182)=w1:=⟨_,rfl⟩
 have hbx:=heap_alloc_new w (.cells #[.slice A1 n1 c1,.slice A2 n2 c2] 182)
 have hbl:=below_new w (.cells #[.slice A1 n1 c1,.slice A2 n2 c2] 182)
 rw[hw1] at hbx hbl
 have HW1:=zh hw1
 have HBL:=zh hbl
 obtain⟨d0,d1,-⟩:=cells2 hbx
 have HS:=zh (sounded_any w1 F h C (hh.below hbl) B A1 n1 c1 A2 n2 c2 ws base (hA.below hbl) hb9 sb so n c hC2 M hM hMl (λW hW=>hsc W (hbl.trans (hW.mono hbl.size))) bg (hg.on (hbl.mono hb)) (Nat.le_trans hb hbl.size))
 have Hr:=zh hR.out
 clear hR hA hbx hbl hh hw1 hg hsc hM
 go_enter Tryz.func144,Tryz.ntmps144
 go_upto_region 1 with fail
 rw[HW1.out]
 go_wp2_with fail
 refine HS.out.mono ?_
 rintro e w2 ⟨v,rfl,ha,hb2⟩
 have hfin:=Hr.out (.returned v) w2 ⟨v,rfl,ha,HBL.out.trans (hb2.mono HBL.out.size)⟩
 have HFin:=zh hfin
 clear hfin Hr ha hb2
 go_wp2_with fail
 exact HFin.out
end
end
end Go.Proofs.YtjibohkeapdalaaGreatDoor
