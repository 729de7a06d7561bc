/-
  (*House).reply at a command; conditions: the line is no try, its words are words, the tables lie below a block. (*House).Line at a line that is replied to; conditions: the line before its first newline is not empty, no remark, not too long; what reply answers is a premise. (*House).Line at a command of the table, and at a line that is too long; conditions: the line's words, the tables lie below a block. Plain: what read gives for the forms of the stock's commands; how great a number may be. A book lies in blocks of its own types; posted; conditions: the cells hold a house. (*House).posted: an entry is posted, and its number replied; conditions: the cells hold a house, the tables lie below a block, the moves lie in a row.
-/
import Derived.Test.YtjibohkeapdalaaGreatDoorAi
import Derived.Test.YtjibohkeapdalaaGreatDoorAf
namespace Go.Proofs.YtjibohkeapdalaaGreatDoor
set_option maxHeartbeats 8000000
set_option maxRecDepth 100000
section
section
open Go.RowKit Go.Shelf
theorem splitc_any(s p:ByteArray)(w:World)(b:Nat)(ht:Gl b w)(hs:s.size<4294967281)(hp:1<=p.size) :
 Calls Tryz.prog 64 #[.string s,.string p] w λe w'=>∃ n,e=.returned (.slice (some ⟨w.heap.size,0,none⟩) n n)/\SlE strE 1 w' (some ⟨w.heap.size,0,none⟩) n (strL (Lib.split s.data.toList p.data.toList))/\n<=s.size+1/\Below w.heap.size w w':=by
 obtain⟨m,hm⟩:=ht.mx
 refine (Any.strings_Split splitSLays infoStr s p m w hs hm hp).mono ?_
 rintro e w' ⟨rfl,rfl⟩
 have e:Lib.splitB p 0 (Lib.countB s p) s=strL (Lib.split s.data.toList p.data.toList):=by
  refine strs_data ?_
  rw[Lib.splitB_data]
  rfl
 have hl:=Lib.splitB_all p hp 0 _ s rfl
 have hle:=Lib.countB_le p hp s.size s (Nat.le_refl _)
 rw[e] at hl ⊢
 refine⟨_,rfl,?_,by omega,below_new w _⟩
 rw[← hl]
 exact str_new w _
theorem run_store_fn{P:Program}{w:World}{a:Addr}{m:Mode}(f:Fn)(x y:Array Value):(store a (.func f x y) m).run P w=stored P w a (.func f x y) m:=run_store P w a _ m rfl
attribute [local go_sem] run_store_fn
theorem reply_any(w:World)(h:Nat)(s:ByteArray)(hs:s.size<=4096)(ht:Lib.hasPrefix s.data.toList [116,114,121,32]=false)(hw:[] ∉ spl s.data.toList)(nm fo:List UInt8)(f:FuncId)(ws:List (List UInt8))(hsp:spl s.data.toList=nm :: ws)(i:Nat)(hi:cmdT[i]?=some (nm,fo,f))(hfirst:∀ j x,j<i->cmdT[j]?=some x->x.1≠nm)
 (hfo:fo.length<=1000) (hfa:∀ (j:Nat) b,fo[j]?=some b->b.toNat<128) (hfk:∀ k∈Lib.fields fo,k.length<=1000) (hfl:(Lib.fields fo).length<=1000) (eg:∀ args w,(callFunc f args).run Tryz.prog w=.ok (.enter f args) w) (bg:Nat) (hg:Gl bg w) (hb:bg<=w.heap.size) (R:Value->World->Prop)
 (hno:(readP fo ws).2.2=false->∀ W,Below w.heap.size w W->R (.iface 88 (.int .i64 2)) W)
 (hyes:(readP fo ws).2.2=true->∀ W A1 c1 n1 A2 c2 n2,Below w.heap.size w W->ArgsW w.heap.size W A1 n1 c1 A2 n2 c2 (readP fo ws).1 (readP fo ws).2.1->Calls Tryz.prog f #[.pointer (some ⟨h,0,none⟩),.agg #[.slice A1 n1 c1,.slice A2 n2 c2]] W λe w'=>∃ v,e=.returned v/\R v w') :
 Calls Tryz.prog 25 #[.pointer (some ⟨h,0,none⟩),.string s] w λe w'=>∃ v,e=.returned v/\R v w':=by
 refine calls_cps ?_
 intro Q hQ
 have HG:=zh hg
 have Hno:=zh hno
 have Hyes:=zh hyes
 have Hsp:=zh hsp
 have Hw:=zh hw
 have Hi:=zh hi
 have Hf1:=zh hfirst
 have HP:=zh (cutp_any s ⟨#[116,114,121,32]⟩ w)
 rw[show Lib.hasPrefix s.data.toList (⟨#[116,114,121,32]⟩:ByteArray).data.toList=false from ht] at HP
 have HS:=zh (splitc_any s ⟨#[32]⟩ w bg hg (by omega) (by decide))
 clear hg hno hyes hsp hw hi hfirst ht
 go_enter Tryz.func25,Tryz.ntmps25
 go_wp2_with (go_at_call 62;(with_reducible refine HP.out.mono ?_);rintro e w1 ⟨rfl,rfl⟩)
 refine HS.out.mono ?_
 rintro e w1 ⟨n,rfl,hx,hn,hb1⟩
 have hspl:Lib.split s.data.toList (⟨#[32]⟩:ByteArray).data.toList=nm :: ws:=(split_spl s.data.toList).trans Hsp.out
 rw[hspl] at hx
 have HX:=zh hx
 have HB1:=zh hb1
 have HIn:=zh (inS_any _ n n _ ⟨#[]⟩ w1 hx (by omega))
 have hin:Lib.containsS (strL (nm :: ws)) (⟨#[]⟩:ByteArray)=false:=by
  have h1:=containsS_L (nm :: ws) []
  rw[show (⟨#[]⟩:ByteArray)=⟨([]:List UInt8).toArray⟩ from rfl,h1,← Hsp.out]
  simpa using Hw.out
 rw[hin] at HIn
 clear hx hb1 hspl hin
 go_wp2_with (go_at_call 65;go_loud (refine HIn.out.mono ?_;rintro e w2 ⟨rfl,rfl⟩))
 refine (commands_any w1).mono ?_
 rintro e w2 ⟨cc,rfl,hc2,hb2⟩
 have HC:=zh hc2
 have HB2:=zh (HB1.out.trans (hb2.mono HB1.out.size))
 have HX2:=zh (HX.out.below hb2)
 clear hc2 hb2
 go_wp2_with fail
 have hi40:i<40:=by
  have:=(List.getElem?_eq_some_iff.1 Hi.out).1
  rw[cmdT_len] at this
  exact this
 go_loopw [46] (λs46 wr=>∃ k:Nat,k<=i/\s46=.int .i64 (k:Int)/\Hid (Below w.heap.size w wr)/\Hid (SlE strE 1 wr (some ⟨w.heap.size,0,none⟩) n (strL (nm :: ws)))/\Hid (SlE cmdE 3 wr (some ⟨w1.heap.size,0,none⟩) 40 cmdT)) (λs46 _=>40-(intOf s46).toNat)
 case atStart=>exact⟨0,Nat.zero_le _,rfl,HB2,HX2,HC⟩
 case round =>
  obtain⟨k,hk,rfl,Hb,Hx,Hc⟩:=hrel
  obtain⟨b0,o0,x,e0,hb0,hxk,hcell⟩:=Hc.out.at_ cmdE_len (k:=k) (by omega)
  cases e0
  have q0:=hcell 0 _ rfl
  have q1:=hcell 1 _ rfl
  have q2:=hcell 2 _ rfl
  rw[Nat.zero_add] at q0 q1 q2
  rw[Nat.add_zero] at q0
  obtain⟨b1,o1,y,e1,hb1,hy,q3⟩:=strs_at Hx.out (k:=0) (by rw[Hx.out.1];simp[strL])
  cases e1
  have hy2:y=⟨nm.toArray⟩:=by
   have:(strL (nm :: ws))[0]?=some ⟨nm.toArray⟩:=rfl
   rw[this] at hy
   exact (Option.some.inj hy).symm
  subst hy2
  obtain⟨xn,xf,xg⟩:=x
  have i1:(k:Int)<40:=by omega
  have hn1:1<=n:=by rw[Hx.out.1];simp[strL]
  have hbox:=heap_alloc_new wr (.cells #[.string ⟨xn.toArray⟩,.string ⟨xf.toArray⟩,.func (.func xg) #[] #[]] 180)
  obtain⟨p0,p1,p2,-⟩:=cells3 hbox
  have q3':=(World.cell?_alloc_lt wr (.cells #[.string ⟨xn.toArray⟩,.string ⟨xf.toArray⟩,.func (.func xg) #[] #[]] 180) ⟨w.heap.size,0+0,none⟩ (by dsimp only;omega)).trans q3
  rw[Nat.add_zero] at q3'
  have Hxk:=zh hxk
  dsimp only at q0 q1 q2
  have Hbb:=zh (below_al1' (Below.refl _ wr) (.cells #[.string ⟨xn.toArray⟩,.string ⟨xf.toArray⟩,.func (.func xg) #[] #[]] 180))
  obtain⟨W3,hW3⟩:∃ W3,wr.alloc (.cells #[.string ⟨xn.toArray⟩,.string ⟨xf.toArray⟩,.func (.func xg) #[] #[]] 180)=W3:=⟨_,rfl⟩
  have HW3:=zh hW3
  rw[hW3] at p0 p1 p2 q3' Hbb
  by_cases hki:k<i
  ·have hne:xn≠nm:=Hf1.out k _ hki hxk
   have hcmp:(xn==nm)=false:=beq_eq_false_iff_ne.2 hne
   clear hcell hxk hy hbox q3 hW3
   go_wp2_with fail
   rw[HW3.out]
   go_region
   have hbd:=below_drewn (w:=W3) 1
   have hb3:Below wr.heap.size wr (W3.drewN 1):=Hbb.out.trans (hbd.mono Hbb.out.size)
   have HB3:=zh hb3
   clear hbd hb3
   go_wp2_with fail
   exact⟨⟨k+1,by omega,by go_num,zh (Hb.out.trans (HB3.out.mono Hb.out.size)),zh (Hx.out.below HB3.out),zh (Hc.out.below HB3.out)⟩,by simp[intOf]<;>omega⟩
  ·have hki2:k=i:=by omega
   subst hki2
   have hxe:=Hi.out
   rw[hxk] at hxe
   simp only[Option.some.injEq,Prod.mk.injEq] at hxe
   obtain⟨rfl,rfl,rfl⟩:=hxe
   have hnl:n=ws.length+1:=by
    have:=Hx.out.1
    simpa[strL] using this
   obtain⟨A',hA'⟩:∃ A':Option Addr,(if n=1 then some ⟨w.heap.size,0,none⟩ else some ⟨w.heap.size,1,none⟩)=A':=⟨_,rfl⟩
   have hb3:Below wr.heap.size wr W3:=Hbb.out
   have hxt:SlE strE 1 W3 A' (n-1) (strL ws):=by
    have h3:=Hx.out.below hb3
    by_cases h1:n=1
    ·have:ws=[]:=List.eq_nil_of_length_eq_zero (by omega)
     subst this
     rw[h1]
     exact SlE.nil _ _
    ·rw[if_neg h1] at hA'
     subst hA'
     rw[hnl] at h3
     rw[hnl]
     exact strs_tail h3
   have Hxt:=zh hxt
   have Hb3:=zh (Hb.out.trans (hb3.mono Hb.out.size))
   have HRd:=zh (show ∀ W,Below W3.heap.size W3 W->Calls Tryz.prog 67 #[.string ⟨xf.toArray⟩,.slice A' (n-1) (n-1)] W (λe w'=>∃ A1 c1 A2 c2 n1 n2,e=.returned (.tuple #[.agg #[.slice A1 n1 c1,.slice A2 n2 c2],.bool (readP xf ws).2.2])/\ArgsW W.heap.size w' A1 n1 c1 A2 n2 c2 (readP xf ws).1 (readP xf ws).2.1/\Below W3.heap.size W3 w'/\Below W.heap.size W w') from λW hW=>(hread_any ⟨xf.toArray⟩ A' (n-1) (n-1) ws W (Hxt.out.below hW) (Nat.le_refl _) ⟨by dsimp only;simp only[List.length_nil];omega,λx hx=>by
    have h1:=spl_sub (l:=s.data.toList) (w:=x) (by rw[Hsp.out];exact List.mem_cons_of_mem _ hx)
    have h2:=ba_size s
    omega⟩ (by rw[ba_size];exact hfo) hfa hfk hfl bg ((HG.out.on (Hb3.out.mono hb)).on (hW.mono (by have:=Hb3.out.size;omega))) (by have:=Hb3.out.size;have:=hW.size;omega)).mono λe w' ⟨A1,c1,A2,c2,n1,n2,q1,q2,q4⟩=>⟨A1,c1,A2,c2,n1,n2,q1,q2,hW.trans (q4.mono hW.size),q4⟩)
   have Hnl:=zh hnl
   have hl3:wr.heap.size<W3.heap.size:=by rw[← HW3.out];simp
   clear hcell hxk hy hbox q3 hW3 hxt hb3 hnl
   go_wp2_with fail
   rw[HW3.out]
   go_region
   have hne3:W3.heap.size≠wr.heap.size:=by omega
   have hne3':wr.heap.size≠W3.heap.size:=by omega
   have p1':W3.drew.cell? ⟨wr.heap.size,1,none⟩=some (.string ⟨xf.toArray⟩):=p1
   obtain⟨res,hres⟩:∃ res,(readP xf ws).2.2=res:=⟨_,rfl⟩
   have Hres:=zh hres
   rw[hres] at HRd
   clear hres
   by_cases h1:n=1
   ·rw[if_pos h1] at hA'
    subst hA'
    subst h1
    simp only[Nat.sub_self] at HRd
    go_upto_region 14 with fail
    go_region_held3 (λw'=>w'.cell? ⟨wr.heap.size,1,none⟩=some (.string ⟨xf.toArray⟩))
     (first
     |exact p1'
     |exact pX
     |go_keep)
     (first
     |(go_at_call 67;(refine (HRd.out _ (by first|exact below_drewn 2|exact (below_drewn (w:=W3) 2).alloc (Nat.le_refl _) _)).mono ?_);rintro e w5 ⟨A1,c1,A2,c2,n1,n2,rfl,hx1,hb5,hbW⟩;(first|(have hy:=(hbW.block W3.heap.size (by simp)).trans (heap_alloc_new W3.drew.drew _);have hcl:=cells2 hy;obtain⟨y0,y1,yf⟩:=hcl;have yf0:=yf 0;have yf1:=yf 1;have Hy:=zh hy;clear hy yf)|skip);have pX:=(hb5.cell (p:=⟨wr.heap.size,1,none⟩) hl3).trans p1;have HX1:=zh hx1;have HB5:=zh hb5;clear hx1 hb5 hbW))
    ·obtain⟨Wf,hWf⟩:∃ Wf,w5.alloc (.cells #[.slice A1 n1 c1,.slice A2 n2 c2] 182)=Wf:=⟨_,rfl⟩
     have hr:Wf.heap[w5.heap.size]?=some (.cells #[.slice A1 n1 c1,.slice A2 n2 c2] 182 (0,0)):=hWf ▸ heap_alloc_new w5 _
     have hbf:Below W3.heap.size W3 Wf:=hWf ▸ HB5.out.alloc HB5.out.size _
     have hxf:Below w5.heap.size w5 Wf:=hWf ▸ below_new w5 _
     have HX1':=zh ((HX1.out.below hxf).mono (B':=w.heap.size) (by have:=Hb3.out.size;simp;omega))
     rw[hWf]
     obtain⟨r0,r1,-⟩:=cells2 hr
     have p2':=(hbf.cell (p:=⟨wr.heap.size,2,none⟩) hl3).trans p2
     have HBf:=zh (Hb3.out.trans (hbf.mono (by have:=Hb3.out.size;omega)))
     clear hWf hr hbf hxf
     cases res
     ·go_wp2
      exact hQ.out _ _ ⟨_,rfl,Hno.out Hres.out _ HBf.out⟩
     ·have HD:=zh (Hyes.out Hres.out Wf A1 c1 n1 A2 c2 n2 HBf.out HX1'.out)
      go_wp2_with fail
      refine HD.out.mono ?_
      rintro e w9 ⟨v,rfl,hv⟩
      have HV:=zh hv
      clear hv
      go_wp2
      exact hQ.out _ _ ⟨v,rfl,HV.out⟩
    ·have h9:=hset (i:=1) (v:=.slice A2 n2 c2) (hset (i:=0) (v:=.slice A1 n1 c1) Hy.out)
     obtain⟨Wf,hWf⟩:∃ Wf,(w5.setCell ⟨W3.heap.size,0,none⟩ (.slice A1 n1 c1)).setCell ⟨W3.heap.size,1,none⟩ (.slice A2 n2 c2)=Wf:=⟨_,rfl⟩
     rw[hWf] at h9
     have hr:Wf.heap[W3.heap.size]?=some (.cells #[.slice A1 n1 c1,.slice A2 n2 c2] 182 (0,0)):=h9
     have hxk:Kx (λj=>j=W3.heap.size) w5 Wf:=hWf ▸ kx_set (S:=λj=>j=W3.heap.size) (kx_set (S:=λj=>j=W3.heap.size) (Kx.refl _ w5) rfl 0 _) rfl 1 _
     have hbf:Below W3.heap.size W3 Wf:=hxk.low HB5.out (λj hj=>by omega) HB5.out.size
     have hxf:=True.intro
     have hy9:=Hy.out
     have HX1':=zh ((HX1.out.kx hxk (λj e=>by subst e;simp)).mono (B':=w.heap.size) (by have:=Hb3.out.size;simp;omega))
     rw[hWf]
     clear hy9
     obtain⟨r0,r1,-⟩:=cells2 hr
     have p2':=(hbf.cell (p:=⟨wr.heap.size,2,none⟩) hl3).trans p2
     have HBf:=zh (Hb3.out.trans (hbf.mono (by have:=Hb3.out.size;omega)))
     clear hWf hr hbf hxf
     cases res
     ·go_wp2
      exact hQ.out _ _ ⟨_,rfl,Hno.out Hres.out _ HBf.out⟩
     ·have HD:=zh (Hyes.out Hres.out Wf A1 c1 n1 A2 c2 n2 HBf.out HX1'.out)
      go_wp2_with fail
      refine HD.out.mono ?_
      rintro e w9 ⟨v,rfl,hv⟩
      have HV:=zh hv
      clear hv
      go_wp2
      exact hQ.out _ _ ⟨v,rfl,HV.out⟩
   ·rw[if_neg h1] at hA'
    subst hA'
    have hn2:1<n:=by omega
    have i5:(1:Int)<=(n:Int):=by omega
    have i6:(0:Int)<=(1:Int):=by decide
    go_upto_region 14 with fail
    go_region_held3 (λw'=>w'.cell? ⟨wr.heap.size,1,none⟩=some (.string ⟨xf.toArray⟩))
     (first
     |exact p1'
     |exact pX
     |go_keep)
     (first
     |(go_at_call 67;(refine (HRd.out _ (by first|exact below_drewn 2|exact (below_drewn (w:=W3) 2).alloc (Nat.le_refl _) _)).mono ?_);rintro e w5 ⟨A1,c1,A2,c2,n1,n2,rfl,hx1,hb5,hbW⟩;(first|(have hy:=(hbW.block W3.heap.size (by simp)).trans (heap_alloc_new W3.drew.drew _);have hcl:=cells2 hy;obtain⟨y0,y1,yf⟩:=hcl;have yf0:=yf 0;have yf1:=yf 1;have Hy:=zh hy;clear hy yf)|skip);have pX:=(hb5.cell (p:=⟨wr.heap.size,1,none⟩) hl3).trans p1;have HX1:=zh hx1;have HB5:=zh hb5;clear hx1 hb5 hbW))
    ·obtain⟨Wf,hWf⟩:∃ Wf,w5.alloc (.cells #[.slice A1 n1 c1,.slice A2 n2 c2] 182)=Wf:=⟨_,rfl⟩
     have hr:Wf.heap[w5.heap.size]?=some (.cells #[.slice A1 n1 c1,.slice A2 n2 c2] 182 (0,0)):=hWf ▸ heap_alloc_new w5 _
     have hbf:Below W3.heap.size W3 Wf:=hWf ▸ HB5.out.alloc HB5.out.size _
     have hxf:Below w5.heap.size w5 Wf:=hWf ▸ below_new w5 _
     have HX1':=zh ((HX1.out.below hxf).mono (B':=w.heap.size) (by have:=Hb3.out.size;simp;omega))
     rw[hWf]
     obtain⟨r0,r1,-⟩:=cells2 hr
     have p2':=(hbf.cell (p:=⟨wr.heap.size,2,none⟩) hl3).trans p2
     have HBf:=zh (Hb3.out.trans (hbf.mono (by have:=Hb3.out.size;omega)))
     clear hWf hr hbf hxf
     cases res
     ·go_wp2
      exact hQ.out _ _ ⟨_,rfl,Hno.out Hres.out _ HBf.out⟩
     ·have HD:=zh (Hyes.out Hres.out Wf A1 c1 n1 A2 c2 n2 HBf.out HX1'.out)
      go_wp2_with fail
      refine HD.out.mono ?_
      rintro e w9 ⟨v,rfl,hv⟩
      have HV:=zh hv
      clear hv
      go_wp2
      exact hQ.out _ _ ⟨v,rfl,HV.out⟩
    ·have h9:=hset (i:=1) (v:=.slice A2 n2 c2) (hset (i:=0) (v:=.slice A1 n1 c1) Hy.out)
     obtain⟨Wf,hWf⟩:∃ Wf,(w5.setCell ⟨W3.heap.size,0,none⟩ (.slice A1 n1 c1)).setCell ⟨W3.heap.size,1,none⟩ (.slice A2 n2 c2)=Wf:=⟨_,rfl⟩
     rw[hWf] at h9
     have hr:Wf.heap[W3.heap.size]?=some (.cells #[.slice A1 n1 c1,.slice A2 n2 c2] 182 (0,0)):=h9
     have hxk:Kx (λj=>j=W3.heap.size) w5 Wf:=hWf ▸ kx_set (S:=λj=>j=W3.heap.size) (kx_set (S:=λj=>j=W3.heap.size) (Kx.refl _ w5) rfl 0 _) rfl 1 _
     have hbf:Below W3.heap.size W3 Wf:=hxk.low HB5.out (λj hj=>by omega) HB5.out.size
     have hxf:=True.intro
     have hy9:=Hy.out
     have HX1':=zh ((HX1.out.kx hxk (λj e=>by subst e;simp)).mono (B':=w.heap.size) (by have:=Hb3.out.size;simp;omega))
     rw[hWf]
     clear hy9
     obtain⟨r0,r1,-⟩:=cells2 hr
     have p2':=(hbf.cell (p:=⟨wr.heap.size,2,none⟩) hl3).trans p2
     have HBf:=zh (Hb3.out.trans (hbf.mono (by have:=Hb3.out.size;omega)))
     clear hWf hr hbf hxf
     cases res
     ·go_wp2
      exact hQ.out _ _ ⟨_,rfl,Hno.out Hres.out _ HBf.out⟩
     ·have HD:=zh (Hyes.out Hres.out Wf A1 c1 n1 A2 c2 n2 HBf.out HX1'.out)
      go_wp2_with fail
      refine HD.out.mono ?_
      rintro e w9 ⟨v,rfl,hv⟩
      have HV:=zh hv
      clear hv
      go_wp2
      exact hQ.out _ _ ⟨v,rfl,HV.out⟩
end
end
section
section
open Go.RowKit Go.Shelf
def AnsW(bg:Nat)(Q:List UInt8->World->Prop)(v:Value)(W:World):Prop:=
 (∃ c,v=.iface 88 (.int .i64 c)/\i64B c/\Gl bg W/\∀ W',Below W.heap.size W W'->Q (bangL c) W')\/
 (∃ A n cp L,v=.iface 387 (.slice A n cp)/\SlE strE 1 W A n L/\n<=1000000/\n<=cp/\(linesL (L.map (·.data.toList))).length<=140737488355328/\∀ W',Below W.heap.size W W'->Q (linesL (L.map (·.data.toList))) W')
theorem line_any(w:World)(h:Nat)(hm:w.cell? ⟨h,0,none⟩=some (.bool true))(_hl:h<w.heap.size)(s:ByteArray)(hs:s.size<4294967281)(c:UInt8)(r:List UInt8)(hf:fstL s.data.toList=c :: r)(hc:c≠35)(hlen:r.length<4096)(bg:Nat)(hg:Gl bg w)(Q:List UInt8->World->Prop)
 (hrep:∀ W,Below w.heap.size w W->Calls Tryz.prog 25 #[.pointer (some ⟨h,0,none⟩),.string ⟨(c :: r).toArray⟩] W λe w'=>∃ v,e=.returned v/\AnsW bg Q v w') :
 Calls Tryz.prog 7 #[.pointer (some ⟨h,0,none⟩),.string s] w λe w'=>∃ t,e=.returned (.string ⟨t.toArray⟩)/\Q t w':=by
 refine calls_cps ?_
 intro R hR
 have HC:=zh (cut_any s ⟨#[10]⟩ w bg hg hs)
 have HRep:=zh hrep
 obtain⟨S,hS⟩:∃ S:ByteArray,(⟨(c :: r).toArray⟩:ByteArray)=S:=⟨_,rfl⟩
 have hSL:S.data.toList=c :: r:=by rw[← hS]
 have hsz:S.size=r.length+1:=by rw[ba_size,hSL,List.length_cons]
 have hp:0<S.size:=by omega
 have i1:¬ (4096:Int)<(S.size:Int):=by omega
 have i3:(S.toList==[])=false:=by rw[Lib.toList_data,hSL];rfl
 have h0:S[0]'hp=c:=by
  subst hS
  rfl
 have i2:(((S[0]'hp).toNat:Int)==35)=false:=by
  rw[h0,beq_eq_false_iff_ne]
  intro e
  exact hc (UInt8.toNat_inj.1 (by have h35 : (35 : UInt8).toNat = 35 := by decide
                                  omega))
 rw[show (⟨(Lib.cut s.data.toList (⟨#[10]⟩:ByteArray).data.toList).1.toArray⟩:ByteArray)=S from by rw[← hS,show (Lib.cut s.data.toList (⟨#[10]⟩:ByteArray).data.toList).1=c :: r from (cut_fst s.data.toList).trans hf]] at HC
 rw[hS] at HRep
 clear hS hSL h0 hsz
 clear hg hrep hf hc
 go_enter Tryz.func7,Tryz.ntmps7
 go_wp2_with (go_at_call 24;go_loud (refine HC.out.mono ?_;rintro e w1 ⟨rfl,hb1⟩;have HB1:=zh hb1;clear hb1))
 refine (HRep.out w1 HB1.out).mono ?_
 rintro e w2 ⟨v,rfl,hv⟩
 rcases hv with⟨c2,rfl,h1,h2,h3⟩|⟨A,n,cp,L,rfl,h1,h2,h3,h4,h5⟩
 ·have HT:=zh (rtext_any c2 w2 h1 bg h2)
  have H3:=zh h3
  have hm2:=meth_refusal
  clear h1 h2 h3
  go_wp2_with fail
  refine HT.out.mono ?_
  rintro e w3 ⟨rfl,hb3⟩
  have HQ:=zh (H3.out w3 hb3)
  clear hb3
  go_wp2
  exact hR.out _ _ ⟨_,rfl,HQ.out⟩
 ·have HT:=zh (ltext_any A n cp L w2 h1 h2 h3 h4)
  have H3:=zh h5
  have hm2:=meth_lines
  clear h1 h2 h3 h4 h5
  go_wp2_with fail
  refine HT.out.mono ?_
  rintro e w3 ⟨rfl,hb3⟩
  have HQ:=zh (H3.out w3 hb3)
  clear hb3
  go_wp2
  exact hR.out _ _ ⟨_,rfl,HQ.out⟩
end
end
section
section
open Go.RowKit Go.Shelf
theorem spl_cons'(x:UInt8)(l:List UInt8)(h:x≠32):spl (x :: l)=(x :: (spl l).headD []) :: (spl l).tail:=by rw[spl,if_neg h]
theorem spl_first{l nm:List UInt8}{ws:List (List UInt8)}{c:UInt8}(h:spl l=(c :: nm) :: ws):∃ r,l=c :: r:=by
 cases l with
 |nil=>simp[spl] at h
 |cons x r =>
  by_cases hx:x=32
  ·rw[spl,if_pos hx] at h
   simp at h
  ·rw[spl_cons' x r hx] at h
   simp only[List.cons.injEq] at h
   rw[h.1.1]
   exact⟨r,rfl⟩
theorem spl_try{l nm:List UInt8}{ws:List (List UInt8)}(h:spl l=nm :: ws)(hn:nm≠[116,114,121]):Lib.hasPrefix l [116,114,121,32]=false:=by
 cases hp:Lib.hasPrefix l [116,114,121,32] with
 |false=>rfl
 |true =>
  exfalso
  unfold Lib.hasPrefix at hp
  obtain⟨r,hr⟩:=List.isPrefixOf_iff_prefix.1 hp
  have h2:=spl_word [116,114,121] r (by decide)
  have h3:l=[116,114,121]++32 :: r:=by rw[← hr];rfl
  rw[h3,h2] at h
  exact hn (by injection h with h _;exact h.symm)
theorem first_of{i:Nat}{nm:List UInt8}(h:((cmdT.take i).any λx=>decide (x.1=nm))=false):∀ j x,j<i->cmdT[j]?=some x->x.1≠nm:=by
 intro j x hj hx e
 rw[List.any_eq_false] at h
 have hm:x∈cmdT.take i:=by
  obtain⟨h1,rfl⟩:=List.getElem?_eq_some_iff.1 hx
  rw[List.mem_take_iff_getElem]
  exact⟨j,by omega,rfl⟩
 exact h x hm (by simpa using e)
theorem cline_any(w:World)(h:Nat)(hm:w.cell? ⟨h,0,none⟩=some (.bool true))(hl:h<w.heap.size)(s:ByteArray)(hs:s.size<4294967281)(c:UInt8)(nm fo:List UInt8)(f:FuncId)(ws:List (List UInt8))(hsp:spl (fstL s.data.toList)=(c :: nm) :: ws)(hw:[] ∉ spl (fstL s.data.toList))(hlen:(fstL s.data.toList).length<=4096)(hc:c≠35)(hnt:c :: nm≠[116,114,121])(i:Nat)(hi:cmdT[i]?=some (c :: nm,fo,f))(hfirst:((cmdT.take i).any λx=>decide (x.1=c :: nm))=false)
 (hfo:fo.length<=1000) (hfa:(fo.all λb=>decide (b.toNat<128))=true) (hfk:((Lib.fields fo).all λk=>decide (k.length<=1000))=true) (hfl:(Lib.fields fo).length<=1000) (eg:∀ args w,(callFunc f args).run Tryz.prog w=.ok (.enter f args) w) (bg:Nat) (hg:Gl bg w) (hb:bg<=w.heap.size) (Q:List UInt8->World->Prop)
 (hno:(readP fo ws).2.2=false->∀ W,Below w.heap.size w W->Q (bangL 2) W)
 (hyes:(readP fo ws).2.2=true->∀ W A1 c1 n1 A2 c2 n2,Below w.heap.size w W->ArgsW w.heap.size W A1 n1 c1 A2 n2 c2 (readP fo ws).1 (readP fo ws).2.1->Calls Tryz.prog f #[.pointer (some ⟨h,0,none⟩),.agg #[.slice A1 n1 c1,.slice A2 n2 c2]] W λe w'=>∃ v,e=.returned v/\AnsW bg Q v w') :
 Calls Tryz.prog 7 #[.pointer (some ⟨h,0,none⟩),.string s] w λe w'=>∃ t,e=.returned (.string ⟨t.toArray⟩)/\Q t w':=by
 obtain⟨r,hr⟩:=spl_first hsp
 refine line_any w h hm hl s hs c r hr hc (by rw[hr,List.length_cons] at hlen;omega) bg hg Q ?_
 intro W hW
 have hd:(⟨(c :: r).toArray⟩:ByteArray).data.toList=fstL s.data.toList:=by rw[hr]
 refine reply_any W h ⟨(c :: r).toArray⟩ ?_ ?_ ?_ (c :: nm) fo f ws ?_ i hi (first_of hfirst) hfo (λj b hb=>?_) (λk hk=>?_) hfl eg bg (hg.on (hW.mono hb)) (Nat.le_trans hb hW.size) (AnsW bg Q) (λhz W' hW'=>?_) (λhz W' A1 c1 n1 A2 c2 n2 hW' hA=>?_)
 ·rw[ba_size,hd];exact hlen
 ·rw[hd];exact spl_try hsp hnt
 ·rw[hd];exact hw
 ·rw[hd];exact hsp
 ·have:=List.all_eq_true.1 hfa b (List.mem_of_getElem? hb)
  simpa using this
 ·have:=List.all_eq_true.1 hfk k hk
  simpa using this
 ·have h2:=hW.trans (hW'.mono hW.size)
  exact .inl ⟨2,rfl,⟨by decide,by decide⟩,hg.on (h2.mono hb),λW'' hW''=>hno hz W'' (h2.trans (hW''.mono h2.size))⟩
 ·exact hyes hz W' A1 c1 n1 A2 c2 n2 (hW.trans (hW'.mono hW.size)) (hA.mono hW.size)
end
end
section
theorem readK_one{k:List UInt8}{r:List (List UInt8)}{s:Ta}(h1:k≠kS)(h2:k≠kP)(h3:k≠kPost):readK (k :: r) s=if (takeP k s).2 then readK r (takeP k s).1 else none:=by
 have e1:grpK k=[k]:=by unfold grpK;rw[if_neg h1,if_neg h2,if_neg h3]
 have e2:moreK k=false:=by unfold moreK;rw[decide_eq_false h1,decide_eq_false h2,decide_eq_false h3];rfl
 have e3:leastK k=1:=by unfold leastK;rw[if_neg h1]
 rw[readK,e1,e2,e3,Nat.add_comm,loopK,if_pos (.inl (by decide)),takeG]
 split
 ·rw[takeG,Option.bind_some]
  have:∀ (n:Nat) (t:Ta),loopK [k] false n (1-1) t=some t:=by
   intro n t
   cases n with
   |zero=>rfl
   |succ n=>rw[loopK,if_neg (by simp)]
  rw[this]
  rfl
 ·rfl
theorem takeP_n(s:Ta):takeP kN s=match s.rest with|[]=>(s,false)|w :: r=>(⟨r,s.ws,s.ns++[(numL w).getD 0]⟩,(numL w).isSome):=by
 unfold takeP
 cases s.rest<;>rfl
theorem takeP_w{k:List UInt8}(h:k≠kN)(s:Ta):takeP k s=match s.rest with|[]=>(s,false)|w :: r=>(⟨r,s.ws++[w],s.ns⟩,ofK k w):=by
 unfold takeP
 cases s.rest with
 |nil=>rfl
 |cons w r=>exact if_neg h
theorem finP_yes{o:Option Ta}(h:(finP o).2.2=true):∃ s,o=some s/\s.rest=[]:=by
 cases o with
 |none=>cases h
 |some s=>exact⟨s,rfl,List.eq_nil_of_length_eq_zero (by simpa[finP] using h)⟩
theorem read_none{ws:List (List UInt8)}(h:(readP [] ws).2.2=true):ws=[]/\readP [] ws=([],[],true):=by
 have hf:Lib.fields []=[]:=by decide
 unfold readP at h ⊢
 rw[hf] at h ⊢
 obtain⟨s,h1,h2⟩:=finP_yes h
 cases h1
 dsimp only at h2
 subst h2
 exact⟨rfl,rfl⟩
theorem post_group{s t:Ta}(h:takeG [[119],[119],[119],kN] s=some t):∃ x y z u v q,s.rest=x :: y :: z :: u :: q/\numL u=some v/\t=⟨q,s.ws++[x,y,z],s.ns++[v]⟩:=by
 rw[takeG,takeP_w (by decide)] at h
 cases hr:s.rest with
 |nil=>rw[hr] at h;cases h
 |cons x q =>
  rw[hr] at h
  dsimp only at h
  rw[if_pos (by rfl),takeG,takeP_w (by decide)] at h
  cases q with
  |nil=>cases h
  |cons y q =>
   dsimp only at h
   rw[if_pos (by rfl),takeG,takeP_w (by decide)] at h
   cases q with
   |nil=>cases h
   |cons z q =>
    dsimp only at h
    rw[if_pos (by rfl),takeG,takeP_n] at h
    cases q with
    |nil=>cases h
    |cons u q =>
     dsimp only at h
     cases hv:numL u with
     |none=>simp[hv] at h
     |some v =>
      simp only[hv,Option.isSome_some,if_true,Option.getD_some,takeG,Option.some.injEq] at h
      subst h
      exact⟨x,y,z,u,v,q,rfl,hv,by simp⟩
theorem post_loop:∀ (F L:Nat) (s t:Ta),loopK [[119],[119],[119],kN] true F L s=some t->(∃ m,t.ws.length=s.ws.length+3*m/\t.ns.length=s.ns.length+m/\s.rest.length=t.rest.length+4*m)/\∀ x∈t.ws,x∈s.ws\/x∈s.rest
 |0,_,s,t,h=>by
  cases h
  exact⟨⟨0,rfl,rfl,rfl⟩,λx hx=>.inl hx⟩
 |F+1,L,s,t,h=>by
  rw[loopK] at h
  split at h
  ·cases hg:takeG [[119],[119],[119],kN] s with
   |none=>rw[hg] at h;cases h
   |some s' =>
    rw[hg,Option.bind_some] at h
    obtain⟨x,y,z,u,v,q,e1,hv,rfl⟩:=post_group hg
    obtain⟨⟨m,h1,h2,h3⟩,h4⟩:=post_loop F (L-1) _ t h
    refine⟨⟨m+1,?_,?_,?_⟩,λa ha=>?_⟩
    ·rw[h1];simp;omega
    ·rw[h2];simp;omega
    ·rw[e1];simp only[List.length_cons];dsimp only at h3;omega
    ·rcases h4 a ha with hm|hm
     ·dsimp only at hm
      rcases List.mem_append.1 hm with hm|hm
      ·exact .inl hm
      ·right;rw[e1];simp at hm ⊢;rcases hm with rfl|rfl|rfl<;>simp
     ·dsimp only at hm
      right;rw[e1];simp[hm]
  ·cases h
   exact⟨⟨0,rfl,rfl,rfl⟩,λx hx=>.inl hx⟩
theorem read_post{ws:List (List UInt8)}(h:(readP kPost ws).2.2=true):(readP kPost ws).1.length=3*(readP kPost ws).2.1.length/\ws.length=4*(readP kPost ws).2.1.length/\∀ x∈(readP kPost ws).1,x∈ws:=by
 have hf:Lib.fields kPost=[kPost]:=by decide
 unfold readP at h ⊢
 rw[hf] at h ⊢
 obtain⟨s,h1,h2⟩:=finP_yes h
 rw[h1]
 rw[readK,show grpK kPost=[[119],[119],[119],kN] by decide,show moreK kPost=true by decide,show leastK kPost=1 by decide] at h1
 cases hl:loopK [[119],[119],[119],kN] true (1+ws.length) 1 ⟨ws,[],[]⟩ with
 |none=>rw[hl] at h1;cases h1
 |some t =>
  rw[hl] at h1
  cases h1
  obtain⟨⟨m,q1,q2,q3⟩,q4⟩:=post_loop _ _ _ _ hl
  rw[h2] at q3
  simp only[List.length_nil,Nat.zero_add] at q1 q2 q3
  refine⟨by show s.ws.length=3*s.ns.length;omega,by show ws.length=4*s.ns.length;omega,λx hx=>?_⟩
  rcases q4 x hx with hm|hm
  ·cases hm
  ·exact hm
end
section
section
open Go.RowKit Go.Shelf
def BkTy(ty:TypeId):Prop:=ty=158\/ty=5\/ty=164\/ty=165\/ty=264
def OfT(W:World)(F G:Nat->Prop):Prop:=∀ j,F j->((∃ C ty,W.heap[j]?=some (.cells C ty (0,0))/\BkTy ty)\/∃ es cl,W.heap[j]?=some (.map es cl))->G j
theorem Dsk.subT{W:World}{F G:Nat->Prop}{a:Nat}{d:Dk}(h:Dsk W F a d)(k:OfT W F G):Dsk W G a d:=by
 obtain⟨h1,h2,A,c,h3,h4,h5⟩:=h
 refine⟨h1,k a h2 (.inl ⟨_,_,h3,.inl rfl⟩),A,c,h3,h4,λg hg=>k g (h5 g hg) (.inl ?_)⟩
 obtain⟨C,hC⟩:=own_blk h4 hg
 exact⟨C,_,hC,.inr (.inl rfl)⟩
theorem Ent.subT{W:World}{F G:Nat->Prop}{v:Value}{E:List (List Mv)}(h:Ent W F v E)(k:OfT W F G):Ent W G v E:=by
 obtain⟨o,h1,h2,h3⟩:=h
 refine⟨o,h1,λg hg=>?_,λi e he=>?_⟩
 ·obtain⟨C,hC⟩:=own_blk h1 hg
  exact k g (h2 g hg) (.inl ⟨C,_,hC,.inr (.inr (.inr (.inl rfl)))⟩)
 ·obtain⟨Ai,ci,e1,e2,e3⟩:=h3 i e he
  refine⟨Ai,ci,e1,e2,λg hg=>?_⟩
  obtain⟨C,hC⟩:=own_blk e2 hg
  exact k g (e3 g hg) (.inl ⟨C,_,hC,.inr (.inr (.inr (.inr rfl)))⟩)
theorem Bd.subT{W:World}{F G:Nat->Prop}{a dk:Nat}{d:Dk}{b:Bk}(h:Bd W F a dk d b)(k:OfT W F G):Bd W G a dk d b:=by
 refine⟨h.disk.subT k,?_⟩
 obtain⟨q0,A,c,mb,n,q1,q2,q3,q4,q5⟩:=h.book
 exact⟨k a q0 (.inl ⟨_,_,q1,.inr (.inr (.inl rfl))⟩),A,c,mb,n,q1,q2.subT k,k mb q3 (.inr q5.map),q4,q5⟩
def HsG(W:World)(F:Nat->Prop)(j:Nat):Prop:=F j/\∀ C ty,W.heap[j]?=some (.cells C ty (0,0))->ty≠87/\ty≠149
theorem Hs.book{W:World}{F:Nat->Prop}{h a dk:Nat}{d:Dk}{b:Bk}{sh:List Shp}(hh:Hs W F h a dk d b sh):Bd W (HsG W F) a dk d b:=
 hh.bd.subT λj hj hc=>⟨hj,λC ty hC=>by
  rcases hc with⟨C2,ty2,h2,h3⟩|⟨es,cl,h2⟩
  ·rw[hC] at h2
   simp only[Option.some.injEq,Obj.cells.injEq] at h2
   rw[h2.2.1]
   rcases h3 with rfl|rfl|rfl|rfl|rfl<;>decide
  ·rw[hC] at h2
   simp at h2⟩
theorem Hs.after{W w:World}{F:Nat->Prop}{h a dk:Nat}{d d':Dk}{b b':Bk}{sh:List Shp}(hh:Hs W F h a dk d b sh)(hb:Bd w (HsG W F) a dk d' b')(k:Kx (HsG W F) W w):Hs w F h a dk d' b' sh:=by
 obtain⟨C,h1,h2,h3,h4,A,c,h5,h6,h7⟩:=hh.cells
 refine⟨hb.sub λj hj _=>hj.1,hh.own,C,(k.block _ (Array.getElem?_eq_some_iff.1 h1).1 (λhn=>(hn.2 _ _ h1).1 rfl)).trans h1,h2,h3,h4,A,c,h5,own_heap h6 (λg hg=>?_),h7⟩
 obtain⟨D,hD⟩:=own_blk h6 hg
 exact k.block g (Array.getElem?_eq_some_iff.1 hD).1 (λhn=>(hn.2 _ _ hD).2 rfl)
theorem up_G{W:World}{F:Nat->Prop}(h:Up W F):Up W (HsG W F):=λj hj=>⟨h j hj,λC ty hC=>by
 have:=(Array.getElem?_eq_some_iff.1 hC).1
 omega⟩
end
end
section
section
open Go.RowKit Go.Shelf
def AnsT(t:List UInt8)(v:Value)(W:World):Prop:=
 (∃ c,v=.iface 88 (.int .i64 c)/\i64B c/\t=bangL c)\/
 (∃ A n cp L,v=.iface 387 (.slice A n cp)/\SlE strE 1 W A n L/\n<=1000000/\n<=cp/\(linesL (L.map (·.data.toList))).length<=140737488355328/\t=linesL (L.map (·.data.toList)))
theorem AnsT.ansW{bg:Nat}{t:List UInt8}{v:Value}{W:World}{Q:List UInt8->World->Prop}(h:AnsT t v W)(hg:Gl bg W)(hQ:∀ W',Below W.heap.size W W'->Q t W'):AnsW bg Q v W:=by
 rcases h with⟨c,rfl,h1,rfl⟩|⟨A,n,cp,L,rfl,h1,h2,h3,h4,rfl⟩
 ·exact .inl ⟨c,rfl,h1,hg,hQ⟩
 ·exact .inr ⟨A,n,cp,L,rfl,h1,h2,h3,h4,hQ⟩
def eitherT(e:Int)(t:List UInt8):List UInt8:=if e=0 then t else bangL e
def entW:List UInt8:=[101,110,116,114,121]
def postT(P:Dk×Bk×Int):List UInt8:=eitherT P.2.2 (linesL [rowL entW [(P.2.1.E.length:Int)-1]])
theorem post_code(d:Dk)(b:Bk)(l:List Mv):i64B (postB d b l).2.2:=by
 unfold postB i64B
 have h1:=would_bd b l
 have h2:=app_cases d (encE l)
 have h3:=sync_cases (d.app (encE l)).1
 split
 ·dsimp only;omega
 ·split
  ·dsimp only;omega
  ·split
   ·dsimp only;omega
   ·split
    ·dsimp only;omega
    ·dsimp only;omega
theorem ans_row{W:World}{b:Nat}{wd:List UInt8}{x e:Int}(he:i64B e)(hx:i64B x)(hw:wd.length<=1000000)(hX:SlE strE 1 W (some ⟨b,0,none⟩) 1 [⟨(rowL wd [x]).toArray⟩]) :
 AnsT (eitherT e (linesL [rowL wd [x]])) (if e≠0 then .iface 88 (.int .i64 e) else .iface 387 (.slice (some ⟨b,0,none⟩) 1 1)) W:=by
 unfold eitherT
 by_cases h0:e=0
 ·rw[if_pos h0,if_neg (by simp[h0])]
  refine .inr ⟨_,1,1,_,rfl,hX,by omega,by omega,?_,rfl⟩
  have:=Lib.itoa_length_le x hx.1 hx.2
  simp[linesL,rowL]
  omega
 ·rw[if_neg h0,if_pos h0]
  exact .inl ⟨e,rfl,he,rfl⟩
theorem posted_any(w:World)(F:Nat->Prop)(h a dk:Nat)(d:Dk)(b:Bk)(sh:List Shp)(hh:Hs w F h a dk d b sh)(hi:Inv d b)(hu:Up w F)(A:Option Addr)(n c:Nat)(l:List Mv)(hX:w.ownsRow 0 264 4 (.slice A n c) n (l.flatMap mvE))(hl:n=l.length)(hs:mvS l)(hn:n<=9223372036854775807)(bg:Nat)(hg:Gl bg w)(hb:bg<=w.heap.size)(hF:∀ j,F j->bg<=j) :
 Calls Tryz.prog 267 #[.pointer (some ⟨h,0,none⟩),.slice A n c] w λe w'=>∃ v,e=.returned v/\AnsT (postT (postB d b l)) v w'/\Hs w' F h a dk (postB d b l).1 (postB d b l).2.1 sh/\Kx F w w':=by
 refine calls_cps ?_
 intro R hR
 obtain⟨A0,c0,-,-,q14,-⟩:=hh.at
 have HP:=zh (post_any w (HsG w F) a dk d b A n c l hh.book hi (up_G hu) hX hl hs hn)
 have HI:=zh (hi.post l)
 have HC:=zh (post_code d b l)
 have HH:=zh hh
 have HG:=zh hg
 obtain⟨P,hP⟩:∃ P,postB d b l=P:=⟨_,rfl⟩
 rw[hP] at HP HI HC hR
 have Hr:=zh hR.out
 clear hR hP hh hi hu hX hl hs hg
 go_enter Tryz.func267,Tryz.ntmps267
 go_wp2_with fail
 refine HP.out.mono ?_
 rintro e w1 ⟨rfl,hb1,hk1⟩
 have hh1:=HH.out.after hb1 hk1
 obtain⟨A1,c1,-,-,p14,-⟩:=hh1.at
 obtain⟨N,hN⟩:∃ N,P.2.1.E.length=N:=⟨_,rfl⟩
 have HCn:=zh (count_any w1 F a dk _ hh1.bd.book)
 rw[hN] at HCn
 have hN2:N<=9362:=by rw[← hN];exact HI.out.few
 have HN:=zh hN
 have HH1:=zh hh1
 have HK1:=zh (hk1.mono (T:=F) λj hj=>hj.1)
 have HG1:=zh (HG.out.kx HK1.out hF hb)
 have hsz:=hk1.size
 have Hsz:=zh hsz
 clear hb1 hk1 hh1 hN hsz q14
 go_wp2_with fail
 refine HCn.out.mono ?_
 rintro e w1' ⟨rfl,rfl⟩
 go_wp2_with fail
 have HB2:=zh (below_new w1 (.cells #[.int .i64 ((N:Int)-1)] 3))
 have HRow:=zh (row_any ⟨entW.toArray⟩ (some ⟨w1.heap.size,0,none⟩) 1 1 [(N:Int)-1] (w1.alloc (.cells #[.int .i64 ((N:Int)-1)] 3)) ⟨rfl,by have h:=Sl.newAt w1 #[.int .i64 ((N:Int)-1)] 3 1 1 rfl rfl;exact h⟩ (by omega) (by decide) (λx hx=>by rw[List.mem_singleton] at hx;subst hx;exact⟨by omega,by omega⟩) bg (HG1.out.on (HB2.out.mono (by have:=Hsz.out;omega))) (by have:=Hsz.out;simp;omega))
 refine HRow.out.mono ?_
 rintro e w3 ⟨rfl,hb3⟩
 have HB3:=zh (HB2.out.trans (hb3.mono HB2.out.size))
 clear hb3
 go_wp2_with fail
 have hx4:=str_new w3 [⟨(rowL entW [(N:Int)-1]).toArray⟩]
 have HA:=zh (ans_row (wd:=entW) HC.out (x:=(N:Int)-1) ⟨by omega,by omega⟩ (by decide) hx4)
 have HE:=zh (either_any P.2.2 (some ⟨w3.heap.size,0,none⟩) 1 1 (w3.alloc (.cells #[.string ⟨(rowL entW [(N:Int)-1]).toArray⟩] 9)))
 obtain⟨V,hV⟩:∃ V,(if P.2.2≠0 then Value.iface 88 (.int .i64 P.2.2) else .iface 387 (.slice (some ⟨w3.heap.size,0,none⟩) 1 1))=V:=⟨_,rfl⟩
 rw[hV] at HE HA
 refine HE.out.mono ?_
 rintro e w4 ⟨rfl,rfl⟩
 have hb4:Below w1.heap.size w1 (w3.alloc (.cells #[.string ⟨(rowL entW [(N:Int)-1]).toArray⟩] 9)):=HB3.out.trans ((below_new w3 _).mono HB3.out.size)
 have hfin:=Hr.out _ _ ⟨_,rfl,by unfold postT;rw[HN.out];exact HA.out,HH1.out.below hb4,HK1.out.below hb4⟩
 have HFin:=zh hfin
 clear Hr hx4 hb4 hfin hV
 go_wp2
 exact HFin.out
end
end
end Go.Proofs.YtjibohkeapdalaaGreatDoor
