/-
  grow of courses and metals, (*House).setGauges, course, metal; conditions: the cells hold a house, there is room. grow of metals, (*House).setGauges; conditions: those that each theorem states. (*House).course; conditions: those that each theorem states. (*House).metal at a metal of two strengths; conditions: the cells hold a house, there is room.
-/
import Derived.Test.YtjibohkeapdalaaGreatDoorEb
import Derived.Test.YtjibohkeapdalaaGreatDoorDa
import Derived.Deep.RegionLaw
import Derived.StillTailTactics
namespace Go.Proofs.YtjibohkeapdalaaGreatDoor
set_option maxHeartbeats 8000000
set_option maxRecDepth 8000
section
section
open Go.RowKit Go.Shelf
theorem row_more{W w1 w2:World}{F:Nat->Prop}{h i n c c' sz:Nat}{C:Array Value}{A A':Option Addr}{t:TypeId}{xs ys:List Value}(hu:Up W F)(hh:HB W F h C)(hi:i≠0)(hb:Below W.heap.size W w1)(hC:C[i]?=some (.slice A n c))(ht:t≠87)(hF:∀ g,(Value.slice A n c).ownBlock=some g->F g)(ho:W.ownsRow 0 t sz (.slice A n c) n xs)
 (ho2:w2.ownsRow 0 t sz (.slice A' (n+1) c') (n+1) (xs++ys)) (hg:w1.grownBy w2 (Value.slice A n c).ownBlock) (hl:(Value.slice A' (n+1) c').ownBlock=(Value.slice A n c).ownBlock\/(Value.slice A' (n+1) c').ownBlock=some w1.heap.size) :
 (w2.cell? ⟨h,i,none⟩=some (.slice A n c)/\w2.frozen? ⟨h,i,none⟩=false)/\HB (w2.setCell ⟨h,i,none⟩ (.slice A' (n+1) c')) F h (C.setIfInBounds i (.slice A' (n+1) c'))/\(w2.setCell ⟨h,i,none⟩ (.slice A' (n+1) c')).ownsRow 0 t sz (.slice A' (n+1) c') (n+1) (xs++ys)/\(∀ g,(Value.slice A' (n+1) c').ownBlock=some g->F g)/\
  Kx (λj=>j=h\/(Value.slice A n c).ownBlock=some j) W (w2.setCell ⟨h,i,none⟩ (.slice A' (n+1) c')):=by
 have hne:=own_nea (a:=h) hh.box ho ht
 have hk2:Kx (λj=>(Value.slice A n c).ownBlock=some j) W w2:=((Kx.refl _ W).below hb).grown hg (λj hj=>.inl hj)
 have q1:=(hk2.block h hh.lt (λe=>hne h e rfl)).trans hh.box
 have h2:HB w2 F h C:=⟨hh.own,q1,hh.made,hh.sz⟩
 refine⟨h2.at hC,h2.set hi _,own_setH ho2 q1 ht,λg hg'=>?_,(hk2.mono (λj e=>.inr e)).trans (kx_put w2 h i _) (λj _ e=>.inl e)⟩
 rcases hl with e|e
 ·exact hF g (e ▸ hg')
 ·rw[e] at hg'
  cases hg'
  exact hu _ hb.size
theorem elemCrsK:ElemOk Tryz.prog 43 47 4 32:=ElemOk.of (z:=.agg #[.int .i64 0,.int .i64 0,.int .i64 0,.int .i64 0]) Tryz.underlying43 (by kernel_rfl) rfl (by omega)
theorem elemMtlK:ElemOk Tryz.prog 42 41 2 32:=ElemOk.of (z:=.agg #[.int .i64 0,.slice none 0 0]) Tryz.underlying42 (by kernel_rfl) rfl (by omega)
theorem gcourse_any(w:World)(F:Nat->Prop)(h:Nat)(C:Array Value)(hh:HB w F h C)(hu:Up w F)(A:Option Addr)(n c:Nat)(xs:List Value)(hC:C[5]?=some (.slice A n c))(ho:w.ownsRow 0 47 4 (.slice A n c) n xs)(hF:∀ g,(Value.slice A n c).ownBlock=some g->F g)(hn:n<96)(x0 x1 x2 x3:Int) :
 Calls Tryz.prog 264 #[.pointer (some ⟨h,5,none⟩),.int .i64 96,.agg #[.int .i64 x0,.int .i64 x1,.int .i64 x2,.int .i64 x3]] w λe w'=>∃ A' c',e=.returned (.iface 387 (.slice none 0 0))/\HB w' F h (C.setIfInBounds 5 (.slice A' (n+1) c'))/\
  w'.ownsRow 0 47 4 (.slice A' (n+1) c') (n+1) (xs++[.int .i64 x0,.int .i64 x1,.int .i64 x2,.int .i64 x3])/\(∀ g,(Value.slice A' (n+1) c').ownBlock=some g->F g)/\Kx (λj=>j=h\/(Value.slice A n c).ownBlock=some j) w w':=by
 refine calls_cps ?_
 intro R hR
 obtain⟨w1,hw1⟩:∃ w1,w.alloc (.cells #[.int .i64 x0,.int .i64 x1,.int .i64 x2,.int .i64 x3] 47)=w1:=⟨_,rfl⟩
 have hbx:=heap_alloc_new w (.cells #[.int .i64 x0,.int .i64 x1,.int .i64 x2,.int .i64 x3] 47)
 have hbl:=below_new w (.cells #[.int .i64 x0,.int .i64 x1,.int .i64 x2,.int .i64 x3] 47)
 rw[hw1] at hbx hbl
 have HW1:=zh hw1
 have HBL:=zh hbl
 obtain⟨d0,d1,d2,d3,-⟩:=cells4 hbx
 obtain⟨k5,-⟩:=(hh.below hbl).at hC
 have Hr:=zh hR.out
 have HH:=zh hh
 have HU:=zh hu
 have HO0:=zh ho
 have HF0:=zh hF
 have HC:=zh hC
 have i1:¬ (n:Int)>=96:=by omega
 clear hR hw1 hbx hbl hh hu ho hF hC
 go_enter Tryz.func264,Tryz.ntmps264
 go_upto_region 1 with fail
 rw[HW1.out]
 go_upto_region 3 with fail
 have hb8:Below w.heap.size w (w1.alloc (.cells #[.int .i64 x0,.int .i64 x1,.int .i64 x2,.int .i64 x3] 47)).drew:=(HBL.out.alloc HBL.out.size _).drew
 have HB8:=zh hb8
 have HO8:=zh (ownsRow_below HO0.out hb8)
 have HSl:=zh (Sl.drew (Sl.new w1 #[.int .i64 x0,.int .i64 x1,.int .i64 x2,.int .i64 x3] 47 4 1 rfl))
 have Hone:=zh (show ∀ u∈[Value.int .i64 x0,.int .i64 x1,.int .i64 x2,.int .i64 x3],u.oneCell'=true from by intro u hu;simp at hu;rcases hu with rfl|rfl|rfl|rfl<;>rfl)
 have HM:=zh (λ(A':Option Addr) (c':Nat) (w2:World) h1 h2 h3=>row_more (i:=5) (A:=A) (c:=c) (A':=A') (c':=c') (w2:=w2) (ys:=[.int .i64 x0,.int .i64 x1,.int .i64 x2,.int .i64 x3]) HU.out HH.out (by decide) hb8 HC.out (by decide) HF0.out HO0.out h1 h2 h3)
 have k12:=(World.cell?_alloc_lt w1 (.cells #[.int .i64 x0,.int .i64 x1,.int .i64 x2,.int .i64 x3] 47) ⟨h,5,none⟩ (Nat.lt_of_lt_of_le HH.out.lt HBL.out.size)).trans k5
 clear hb8
 go_region_law ((refine step_app rfl (.tmp 17) (.tmp 19) 43 rfl elemCrsK 0 (.slice A n c) n _ ?_ HO8.out (some ⟨w1.heap.size,0,none⟩) 1 1 [.int .i64 x0,.int .i64 x1,.int .i64 x2,.int .i64 x3] ?_ HSl.out Hone.out (by unfold maxLen;omega) (by omega) (Nat.zero_le _) ?_;(· (simp[Act.eval]));(· (simp[Act.eval]));intro A7 c7 w7 ho7 hg7 hl7;obtain⟨⟨tc,tf⟩,hh7,ho8,hf8,hk7⟩:=HM.out A7 c7 w7 ho7 hg7 hl7;have HH7:=zh hh7;have HK7:=zh hk7;have HO9:=zh ho8;have HF9:=zh hf8;clear ho7 hg7 hl7 hh7 hk7 ho8 hf8))
 all_goals
  have hf:=Hr.out (.returned (.iface 387 (.slice none 0 0))) _ ⟨A7,c7,rfl,HH7.out,HO9.out,HF9.out,HK7.out⟩
  have HFin:=zh hf
  clear hf Hr
  go_wp2
  exact HFin.out
end
end
section
section
open Go.RowKit Go.Shelf
theorem gmetal_any(w:World)(F:Nat->Prop)(h:Nat)(C:Array Value)(hh:HB w F h C)(hu:Up w F)(A:Option Addr)(n c:Nat)(xs:List Value)(hC:C[4]?=some (.slice A n c))(ho:w.ownsRow 0 41 2 (.slice A n c) n xs)(hF:∀ g,(Value.slice A n c).ownBlock=some g->F g)(hn:n<4)(x0:Int)(x1:Value)(hx1:x1.oneCell'=true) :
 Calls Tryz.prog 263 #[.pointer (some ⟨h,4,none⟩),.int .i64 4,.agg #[.int .i64 x0,x1]] w λe w'=>∃ A' c',e=.returned (.iface 387 (.slice none 0 0))/\HB w' F h (C.setIfInBounds 4 (.slice A' (n+1) c'))/\
  w'.ownsRow 0 41 2 (.slice A' (n+1) c') (n+1) (xs++[.int .i64 x0,x1])/\(∀ g,(Value.slice A' (n+1) c').ownBlock=some g->F g)/\Kx (λj=>j=h\/(Value.slice A n c).ownBlock=some j) w w':=by
 refine calls_cps ?_
 intro R hR
 obtain⟨w1,hw1⟩:∃ w1,w.alloc (.cells #[.int .i64 x0,x1] 41)=w1:=⟨_,rfl⟩
 have hbx:=heap_alloc_new w (.cells #[.int .i64 x0,x1] 41)
 have hbl:=below_new w (.cells #[.int .i64 x0,x1] 41)
 rw[hw1] at hbx hbl
 have HW1:=zh hw1
 have HBL:=zh hbl
 obtain⟨d0,d1,-⟩:=cells2 hbx
 obtain⟨k4,-⟩:=(hh.below hbl).at hC
 have Hr:=zh hR.out
 have HH:=zh hh
 have HU:=zh hu
 have HO0:=zh ho
 have HF0:=zh hF
 have HC:=zh hC
 have i1:¬ (n:Int)>=4:=by omega
 clear hR hw1 hbx hbl hh hu ho hF hC
 go_enter Tryz.func263,Tryz.ntmps263
 go_upto_region 1 with fail
 rw[HW1.out]
 go_upto_region 3 with fail
 have hb8:Below w.heap.size w (w1.alloc (.cells #[.int .i64 x0,x1] 41)).drew:=(HBL.out.alloc HBL.out.size _).drew
 have HB8:=zh hb8
 have HO8:=zh (ownsRow_below HO0.out hb8)
 have HSl:=zh (Sl.drew (Sl.new w1 #[.int .i64 x0,x1] 41 2 1 rfl))
 have Hone:=zh (show ∀ u∈[Value.int .i64 x0,x1],u.oneCell'=true from by intro u hu;simp at hu;rcases hu with rfl|rfl;(· rfl);exact hx1)
 have HM:=zh (λ(A':Option Addr) (c':Nat) (w2:World) h1 h2 h3=>row_more (i:=4) (A:=A) (c:=c) (A':=A') (c':=c') (w2:=w2) (ys:=[.int .i64 x0,x1]) HU.out HH.out (by decide) hb8 HC.out (by decide) HF0.out HO0.out h1 h2 h3)
 have k12:=(World.cell?_alloc_lt w1 (.cells #[.int .i64 x0,x1] 41) ⟨h,4,none⟩ (Nat.lt_of_lt_of_le HH.out.lt HBL.out.size)).trans k4
 clear hb8
 go_region_law ((refine step_app rfl (.tmp 17) (.tmp 19) 42 rfl elemMtlK 0 (.slice A n c) n _ ?_ HO8.out (some ⟨w1.heap.size,0,none⟩) 1 1 [.int .i64 x0,x1] ?_ HSl.out Hone.out (by unfold maxLen;omega) (by omega) (Nat.zero_le _) ?_;(· (simp[Act.eval]));(· (simp[Act.eval]));intro A7 c7 w7 ho7 hg7 hl7;obtain⟨⟨tc,tf⟩,hh7,ho8,hf8,hk7⟩:=HM.out A7 c7 w7 ho7 hg7 hl7;have HH7:=zh hh7;have HK7:=zh hk7;have HO9:=zh ho8;have HF9:=zh hf8;clear ho7 hg7 hl7 hh7 hk7 ho8 hf8))
 all_goals
  have hf:=Hr.out (.returned (.iface 387 (.slice none 0 0))) _ ⟨A7,c7,rfl,HH7.out,HO9.out,HF9.out,HK7.out⟩
  have HFin:=zh hf
  clear hf Hr
  go_wp2
  exact HFin.out
theorem hgauges_any(w:World)(F:Nat->Prop)(h:Nat)(C:Array Value)(hh:HB w F h C)(A1:Option Addr)(n1 c1:Nat)(A2:Option Addr)(n2 c2:Nat)(hn:n2<=16) :
 Calls Tryz.prog 147 #[.pointer (some ⟨h,0,none⟩),.agg #[.slice A1 n1 c1,.slice A2 n2 c2]] w λe w'=>e=.returned (.iface 387 (.slice none 0 0))/\HB w' F h (C.setIfInBounds 3 (.slice A2 n2 c2))/\Kx (λj=>j=h) w w':=by
 refine calls_cps ?_
 intro R hR
 obtain⟨w1,hw1⟩:∃ w1,w.alloc (.cells #[.slice A1 n1 c1,.slice A2 n2 c2] 182)=w1:=⟨_,rfl⟩
 have hbx:=heap_alloc_new w (.cells #[.slice A1 n1 c1,.slice A2 n2 c2] 182)
 have hbl:=below_new w (.cells #[.slice A1 n1 c1,.slice A2 n2 c2] 182)
 rw[hw1] at hbx hbl
 have HW1:=zh hw1
 obtain⟨d0,d1,-⟩:=cells2 hbx
 obtain⟨v3,hv3⟩:∃ v3,C[3]?=some v3:=⟨C[3]'(by rw[hh.sz];decide),by rw[Array.getElem?_eq_getElem]⟩
 obtain⟨k3,f3⟩:=(hh.below hbl).at hv3
 have i1:¬ (n2:Int) > 16:=by omega
 have HF:=zh (hR.out (.returned (.iface 387 (.slice none 0 0))) (w1.setCell ⟨h,3,none⟩ (.slice A2 n2 c2)) ⟨rfl,(hh.below hbl).set (by decide) _,(kx_of_below hbl).trans (kx_put w1 h 3 _) (λ_ _ e=>e)⟩)
 clear hR hbx hbl hw1 hh hv3
 go_enter Tryz.func147,Tryz.ntmps147
 go_upto_region 1 with fail
 rw[HW1.out]
 go_wp2_with fail
 exact HF.out
end
end
section
section
open Go.RowKit Go.Shelf
theorem hcourse_any(w:World)(F:Nat->Prop)(h:Nat)(C:Array Value)(hh:HB w F h C)(hu:Up w F)(A:Option Addr)(n c:Nat)(xs:List Value)(hC:C[5]?=some (.slice A n c))(ho:w.ownsRow 0 47 4 (.slice A n c) n xs)(hF:∀ g,(Value.slice A n c).ownBlock=some g->F g)(hn:n<96)(B:Nat)(A1:Option Addr)(n1 c1:Nat)(A2:Option Addr)(n2 c2:Nat)(ws:List (List UInt8))(x0 x1 x2 x3:Int)(hA:ArgsW B w A1 n1 c1 A2 n2 c2 ws [x0,x1,x2,x3]) :
 Calls Tryz.prog 149 #[.pointer (some ⟨h,0,none⟩),.agg #[.slice A1 n1 c1,.slice A2 n2 c2]] w λe w'=>∃ A' c',e=.returned (.iface 387 (.slice none 0 0))/\HB w' F h (C.setIfInBounds 5 (.slice A' (n+1) c'))/\
  w'.ownsRow 0 47 4 (.slice A' (n+1) c') (n+1) (xs++[.int .i64 x0,.int .i64 x1,.int .i64 x2,.int .i64 x3])/\(∀ g,(Value.slice A' (n+1) c').ownBlock=some g->F g)/\Kx (λj=>j=h\/(Value.slice A n c).ownBlock=some j) w w':=by
 refine calls_cps ?_
 intro R hR
 have l2:=hA.l2
 simp only[List.length_cons,List.length_nil,Nat.zero_add,Nat.reduceAdd] at l2
 subst l2
 obtain⟨w1,hw1⟩:∃ w1,w.alloc (.cells #[.slice A1 n1 c1,.slice A2 4 c2] 182)=w1:=⟨_,rfl⟩
 have hbx:=heap_alloc_new w (.cells #[.slice A1 n1 c1,.slice A2 4 c2] 182)
 have hbl:=below_new w (.cells #[.slice A1 n1 c1,.slice A2 4 c2] 182)
 rw[hw1] at hbx hbl
 have HW1:=zh hw1
 have hA1:=hA.below hbl
 obtain⟨bi,oi,y0,rfl,hbi,hx0,p0⟩:=hA1.s2.at1 (k:=0) (by omega)
 obtain⟨bi',oi',y1,e1,-,hx1,p1⟩:=hA1.s2.at1 (k:=1) (by omega)
 cases e1
 obtain⟨bi',oi',y2,e1,-,hx2,p2⟩:=hA1.s2.at1 (k:=2) (by omega)
 cases e1
 obtain⟨bi',oi',y3,e1,-,hx3,p3⟩:=hA1.s2.at1 (k:=3) (by omega)
 cases e1
 simp only[List.getElem?_cons_zero,List.getElem?_cons_succ,Option.some.injEq] at hx0 hx1 hx2 hx3
 subst hx0 hx1 hx2 hx3
 rw[Nat.add_zero] at p0
 obtain⟨d0,d1,-⟩:=cells2 hbx
 have hbd:Below w.heap.size w w1.drew:=hbl.trans ((below_drewn (w:=w1) 1).mono hbl.size)
 have HG:=zh (gcourse_any w1.drew F h C (hh.below hbd) (hu.below hbd) A n c xs hC (ownsRow_below ho hbd) hF hn x0 x1 x2 x3)
 have HK:=zh (kx_of_below (S:=λj=>j=h\/(Value.slice A n c).ownBlock=some j) hbd)
 obtain⟨v0,hv0⟩:∃ v0,C[0]?=some v0:=⟨_,hh.made⟩
 have Hr:=zh hR.out
 clear hR hA hA1 hbx hbl hh hw1 hu ho hbd hF hC hv0
 go_enter Tryz.func149,Tryz.ntmps149
 go_upto_region 1 with fail
 rw[HW1.out]
 go_upto_region 2 with fail
 go_still_tail 17,(by kernel_rfl)
 go_wp2_with fail
 refine HG.out.mono ?_
 rintro e w2 ⟨A',c',rfl,h1,h2,h3,h4⟩
 have hf:=Hr.out (.returned (.iface 387 (.slice none 0 0))) w2 ⟨A',c',rfl,h1,h2,h3,HK.out.trans h4 (λ_ _ e=>e)⟩
 have HFin:=zh hf
 clear hf h1 h2 h3 h4 Hr
 go_wp2_with fail
 exact HFin.out
end
end
section
section
open Go.RowKit Go.Shelf
theorem run_tail1(b o n c:Nat)(h1:1<=n)(hc:1<c)(W:World):(Instr.slice 22 (.slice (some ⟨b,o,none⟩) n c) (some (.int .i64 1)) none none).run Tryz.prog W=.ok (.slice (some ⟨b,o+1,none⟩) (n-1) (c-1)) W:=by
 have ht:Tryz.prog.underlying 22=some (.slice (Tryz.prog.elem 22)):=by simp[Program.elem,Tryz.underlying22]
 have he:Tryz.prog.elem 22=3:=by simp[Program.elem,Tryz.underlying22]
 have hz:∀ w,(Go.sizeOf 3).run Tryz.prog w=.ok 1 w:=λw=>by kernel_rfl
 rw[run_slice_l W 22 _ _ _ ht .i64 _ (by omega) (by omega),he,hz]
 have hn:¬ c=1:=by omega
 simp[Result.andThen,sliced,Addr.add,hn]
theorem hmetal_any(w:World)(F:Nat->Prop)(h:Nat)(C:Array Value)(hh:HB w F h C)(hu:Up w F)(A:Option Addr)(n c:Nat)(xs:List Value)(hC:C[4]?=some (.slice A n c))(ho:w.ownsRow 0 41 2 (.slice A n c) n xs)(hF:∀ g,(Value.slice A n c).ownBlock=some g->F g)(hn:n<4)(B:Nat)(hB:∀ j,B<=j->F j)(A1:Option Addr)(n1 c1:Nat)(A2:Option Addr)(n2 c2:Nat)(ws:List (List UInt8))(x0 x1 x2:Int)(hA:ArgsW B w A1 n1 c1 A2 n2 c2 ws [x0,x1,x2]) :
 Calls Tryz.prog 148 #[.pointer (some ⟨h,0,none⟩),.agg #[.slice A1 n1 c1,.slice A2 n2 c2]] w λe w'=>∃ A' c' As cs,e=.returned (.iface 387 (.slice none 0 0))/\HB w' F h (C.setIfInBounds 4 (.slice A' (n+1) c'))/\
  w'.ownsRow 0 41 2 (.slice A' (n+1) c') (n+1) (xs++[.int .i64 x0,.slice As 2 cs])/\(∀ g,(Value.slice A' (n+1) c').ownBlock=some g->F g)/\ISl w' F As 2 cs [x1,x2]/\Kx (λj=>j=h\/(Value.slice A n c).ownBlock=some j) w w':=by
 refine calls_cps ?_
 intro R hR
 have l2:=hA.l2
 simp only[List.length_cons,List.length_nil,Nat.zero_add,Nat.reduceAdd] at l2
 subst l2
 obtain⟨w1,hw1⟩:∃ w1,w.alloc (.cells #[.slice A1 n1 c1,.slice A2 3 c2] 182)=w1:=⟨_,rfl⟩
 have hbx:=heap_alloc_new w (.cells #[.slice A1 n1 c1,.slice A2 3 c2] 182)
 have hbl:=below_new w (.cells #[.slice A1 n1 c1,.slice A2 3 c2] 182)
 rw[hw1] at hbx hbl
 have HW1:=zh hw1
 have hA1:=hA.below hbl
 have hcap:=own_cap hA.o2
 obtain⟨bi,oi,y0,rfl,hbi,hx0,p0⟩:=hA1.s2.at1 (k:=0) (by omega)
 simp only[List.getElem?_cons_zero,Option.some.injEq] at hx0
 subst hx0
 rw[Nat.add_zero] at p0
 obtain⟨d0,d1,-⟩:=cells2 hbx
 have hbd:Below w.heap.size w w1.drew:=hbl.trans ((below_drewn (w:=w1) 1).mono hbl.size)
 have hI0:ISl w F (some ⟨bi,oi,none⟩) 3 c2 [x0,x1,x2]:=ISl.of_own hA.o2 rfl (λg hg=>hB g (own_ge hA.o2 hg))
 have hI:ISl w F (some ⟨bi,oi+1,none⟩) 2 (c2-1) [x1,x2]:=by
  refine⟨⟨rfl,rfl,λ_=>?_⟩,⟨by omega,by have:=hI0.cap.2;omega⟩,λa _ ha=>?_⟩
  ·obtain⟨b',o',e',hb',hc'⟩:=hI0.sl.2.2 (by omega)
   cases e'
   refine⟨bi,oi+1,rfl,hb',λj u hj=>?_⟩
   have:=hc' (j+1) u (by simpa[intE] using hj)
   rw[show oi+1+j=oi+(j+1) by omega]
   exact this
  ·cases ha
   exact hI0.ty ⟨bi,oi,none⟩ (by omega) rfl
 have hrt:=run_tail1 bi oi 3 c2 (by omega) (by omega)
 have HG:=zh (gmetal_any w1.drew F h C (hh.below hbd) (hu.below hbd) A n c xs hC (ownsRow_below ho hbd) hF hn x0 (.slice (some ⟨bi,oi+1,none⟩) 2 (c2-1)) rfl)
 have HK:=zh (kx_of_below (S:=λj=>j=h\/(Value.slice A n c).ownBlock=some j) hbd)
 have HI:=zh hI
 have HH:=zh hh
 have HO:=zh ho
 have Hr:=zh hR.out
 clear hR hA hA1 hbx hbl hh hw1 hu ho hbd hF hC hI hI0 hB
 go_enter Tryz.func148,Tryz.ntmps148
 go_upto_region 1 with fail
 rw[HW1.out]
 go_still_tail 12,(by kernel_rfl)
 go_wp2_with fail
 refine HG.out.mono ?_
 rintro e w2 ⟨A',c',rfl,h1,h2,h3,h4⟩
 have hk:=HK.out.trans h4 (λ_ _ e=>e)
 have hI2:ISl w2 F (some ⟨bi,oi+1,none⟩) 2 (c2-1) [x1,x2]:=HI.out.keep hk.size λj D hD=>hk.block j (Array.getElem?_eq_some_iff.1 hD).1 λhj=>by
  rcases hj with rfl|hj
  ·rw[HH.out.box] at hD
   simp only[Option.some.injEq,Obj.cells.injEq] at hD
   exact absurd hD.2.1 (by decide)
  ·obtain⟨E,hE⟩:=own_blk HO.out hj
   rw[hE] at hD
   simp only[Option.some.injEq,Obj.cells.injEq] at hD
   exact absurd hD.2.1 (by decide)
 have hf:=Hr.out (.returned (.iface 387 (.slice none 0 0))) w2 ⟨A',c',_,_,rfl,h1,h2,h3,hI2,hk⟩
 have HFin:=zh hf
 clear hf h1 h2 h3 h4 hk hI2 Hr
 go_wp2_with fail
 exact HFin.out
end
end
end Go.Proofs.YtjibohkeapdalaaGreatDoor
