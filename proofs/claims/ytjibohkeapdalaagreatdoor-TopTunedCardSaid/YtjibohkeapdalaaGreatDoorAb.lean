/-
  changes, places, refused: what an entry would do to balances; no condition but the sizes that each theorem states. name, entry, places: what an entry is and what it touches; no condition but the sizes that each theorem states. entry: whether moves are an entry; no condition but the sizes that each theorem states. places, HasPrefix, refused: why an entry is refused by balances; no condition but the sizes that each theorem states. A book as its cells, on its disk; Broken, Would, Count, Entry, Balance, slices.Clone of moves; no condition but that the cells hold a book. slices.Clone of moves, Book.Post; no condition but that the cells hold a book on its disk.
-/
import Derived.Test.YtjibohkeapdalaaGreatDoorAa
import Derived.Lib.Strings
import Derived.BigQuiet
import Derived.Deep.QuietTactic
import Derived.Deep.RegionLaw
import Derived.Deep.RegionHeld3
import Derived.StillTailTactics
import Derived.Lib.SliceRun
namespace Go.Proofs.YtjibohkeapdalaaGreatDoor
set_option maxHeartbeats 8000000
set_option maxRecDepth 8000
section
section
open Go.RowKit Go.Maps
theorem BalD.ops{W:World}{b n:Nat}{D:DataW Unit}{f:Pl->Int}{a i:ByteArray}{T:TypeId}(h:BalD W b n D f)(hT:Tryz.prog.underlying T=some (.map 268 3))(hp:PlZ (a,i))(hn:n<1000000000){x:Int}(hx:i64B x) :
 ∃ (st:Nat) (w1 w2:World),(Instr.lookup T (.map (some b)) (.agg #[.string a,.string i]) false).run Tryz.prog W.drew=.ok (.int .i64 (f (a,i))) W.drew/\
  (Instr.mapEntry T (.map (some b)) (.agg #[.string a,.string i])).run Tryz.prog W.drew=.ok (.tuple #[.int .i64 (f (a,i)),.int .i64 st]) w1/\
  (Instr.lookup T (.map (some b)) (.agg #[.string a,.string i]) false).run Tryz.prog w1=.ok (.int .i64 (f (a,i))) w1/\
  (Instr.entryStore T (.map (some b)) (.int .i64 st) (.int .i64 x)).run Tryz.prog w1=.ok () w2/\
  Hid (∃ D2,BalD w2 b (n+1) D2 (updF f (a,i) x))/\Hid (W.grownBy w1 (some b))/\Hid (W.grownBy w2 (some b)):=by
 have h0:BalD W.drew b n D f:=h
 have hnm:n<maxLen:=by unfold maxLen;omega
 obtain⟨st,w1,he,⟨D1,hD1⟩,ht1,hst⟩:=h0.entry hT hp hnm
 obtain⟨w2,hs2,hD2,ht2⟩:=hst x hx
 have l0:=h0.look hT hp
 have l1:=hD1.look hT hp
 have g1:W.grownBy w1 (some b):=let g:=ht1.grown;⟨g.os,g.tape,g.output,g.size,g.block⟩
 have g2:W.grownBy w2 (some b):=let g:=ht2.grown;⟨g.os,g.tape,g.output,g.size,g.block⟩
 unfold keyV at l0 l1 he
 unfold goInt at he hs2
 dsimp only at l0 l1 he hs2
 refine⟨st,w1,w2,l0,he,l1,hs2,zh ⟨_,hD2⟩,zh g1,zh g2⟩
theorem box_map{w w':World}{b tb:Nat}{C:Array Value}{ty:TypeId}(h:w.heap[tb]?=some (.cells C ty (0,0)))(hne:tb≠b)(hg:w.grownBy w' (some b)):w'.heap[tb]?=some (.cells C ty (0,0)):=
 (hg.block tb (Array.getElem?_eq_some_iff.1 h).1 λe=>hne (by injection e)).trans h
theorem changes_any(w:World)(A:Option Addr)(n c:Nat)(l:List Mv)(hX:SlE mvE 4 w A n l)(hz:mvZ l) :
 Calls Tryz.prog 400 #[.slice A n c] w λe w'=>∃ B D,e=.returned (.map (some B))/\BalD w' B 64 D (enA l)/\Below w.heap.size w w':=by
 refine calls_cps ?_
 intro R hR
 have Hr:=zh hR.out
 have HX:=zh hX
 have Hz:=zh hz
 have Hn:=zh hX.1
 have hn:n<=32:=by rw[hX.1];exact hz.1
 obtain⟨B,hB⟩:∃ B,w.heap.size=B:=⟨_,rfl⟩
 have HB0:=zh hB
 clear hR hX hz hB
 have hmm:=@run_makeMap Tryz.prog
 go_enter Tryz.func400,Tryz.ntmps400
 go_wp2_with fail
 rw[HB0.out]
 go_loopw [9] (λs9 wr=>∃ k:Nat,k<=n/\s9=.int .i64 (k:Int)/\Hid (∃ D,BalD wr B (2*k) D (enA (l.take k)))/\Hid (Below w.heap.size w wr)) (λs9 _=>n-(intOf s9).toNat)
 case atStart =>
  refine⟨0,Nat.zero_le _,rfl,zh ⟨.map [],?_,λp _=>rfl⟩,zh (below_new w _)⟩
  rw[← HB0.out]
  exact World.ownsMap_made w _ _ _
 case round =>
  obtain⟨k,hk,rfl,Hd,Hb⟩:=hrel
  by_cases hlt:k<n
  ·obtain⟨b0,o,y,rfl,hb,hy,q0,q1,q2,q3⟩:=(HX.out.below Hb.out).mv_at hlt
   obtain⟨z1,z2,z3,z4,z5⟩:=Hz.out.2 y (List.mem_of_getElem? hy)
   have i1:(k:Int)<(n:Int):=by omega
   have Hy:=zh hy
   obtain⟨D,hD⟩:=Hd.out
   obtain⟨gf,hgf⟩:∃ gf:Pl->Int,enA (l.take k)=gf:=⟨_,rfl⟩
   have hgb:∀ q,-100000000000<=gf q/\gf q<=100000000000:=λq=>by
    have h2:=enA_bd (l:=l.take k) (λm hm=>by have:=Hz.out.2 m (List.mem_of_mem_take hm);omega) q
    rw[List.length_take] at h2
    rw[← hgf]
    omega
   rw[hgf] at hD
   have HG:=zh hgf
   have p1:PlZ (y.f,y.i):=⟨by dsimp only;omega,by dsimp only;omega⟩
   have p2:PlZ (y.t,y.i):=⟨by dsimp only;omega,by dsimp only;omega⟩
   have g1:=hgb (y.f,y.i)
   have g2:=hgb (y.t,y.i)
   obtain⟨W1,hW1⟩:∃ W1,wr.alloc (.cells #[.string y.f,.string y.t,.string y.i,.int .i64 y.q] 264)=W1:=⟨_,rfl⟩
   have hbox:W1.heap[wr.heap.size]?=some (.cells #[.string y.f,.string y.t,.string y.i,.int .i64 y.q] 264 (0,0)):=by rw[← hW1];exact heap_alloc_new wr _
   obtain⟨tb,htb⟩:∃ tb,wr.heap.size=tb:=⟨_,rfl⟩
   have hne:tb≠B:=by rw[← htb];exact Nat.ne_of_gt hD.lt
   rw[htb] at hbox
   have hD1:BalD W1 B (2*k) D gf:=hD.keep (by rw[← hW1];exact heap_alloc_old wr _ hD.lt)
   have HB1:Hid (Below w.heap.size w W1):=zh (by rw[← hW1];exact below_al1' Hb.out _)
   obtain⟨st,v1,v2,e1,e2,e3,e4,Hd2,Hg1,Hg2⟩:=hD1.ops plT2 p1 (by omega) (x:=gf (y.f,y.i)-y.q) ⟨by omega,by omega⟩
   have hb1:=box_map hbox hne Hg1.out
   have hb2:=box_map hbox hne Hg2.out
   have HBX2:=zh hb2
   obtain⟨c0,c1,c2,c3,-⟩:=cells4 hbox
   obtain⟨d0,d1,d2,d3,-⟩:=cells4 hb1
   obtain⟨D2,hD2⟩:=Hd2.out
   obtain⟨v,hv⟩:∃ v,gf (y.f,y.i)=v:=⟨_,rfl⟩
   rw[hv] at e1 e2 e3 e4 g1 hD2
   have HV:=zh hv
   obtain⟨hf1,hf2⟩:=updF_bd hgb (p:=(y.f,y.i)) (x:=v-y.q) (by omega) (y.t,y.i)
   obtain⟨st',v3,v4,a1,a2,a3,a4,Hd4,Hg3,Hg4⟩:=hD2.ops (a:=y.t) (i:=y.i) plT2 p2 (by omega) (x:=updF gf (y.f,y.i) (v-y.q) (y.t,y.i)+y.q) ⟨by omega,by omega⟩
   have hb3:=box_map hb2 hne Hg3.out
   have hb4:=box_map hb2 hne Hg4.out
   obtain⟨f0,f1,f2,f3,-⟩:=cells4 hb2
   obtain⟨k0,k1,k2,k3,-⟩:=cells4 hb3
   obtain⟨u,hu⟩:∃ u,updF gf (y.f,y.i) (v-y.q) (y.t,y.i)=u:=⟨_,rfl⟩
   rw[hu] at a1 a2 a3 a4 hf1 hf2
   have HU:=zh hu
   have hwr:IntKind.i64.wrap (v-y.q)=v-y.q:=IntWalk.i64_in _ (by omega)
   have hwr2:IntKind.i64.wrap (u+y.q)=u+y.q:=IntWalk.i64_in _ (by omega)
   clear hy hgf hgb hD hbox hne hD1 hb1 hb2 hv hD2 hu hb3 hb4
   go_upto_region 5 with fail
   go_region
   go_upto_region 6 with fail
   go_region
   go_wp2_with fail
   refine⟨⟨k+1,hlt,by go_num,zh ?_,zh ?_⟩,by simp[intOf]<;>omega⟩
   ·obtain⟨D4,h4⟩:=Hd4.out
    refine⟨D4,⟨h4.1.mono (by omega),λq hq=>?_⟩⟩
    rw[h4.2 q hq]
    congr 1
    rw[enA_take Hy.out,HG.out]
    have hv:=HV.out
    have k1:∀ r,updF gf (y.f,y.i) (v-y.q) r=if r=(y.f,y.i) then v-y.q else gf r:=λr=>rfl
    show (if q=(y.t,y.i) then updF gf (y.f,y.i) (v-y.q) (y.t,y.i)+y.q else updF gf (y.f,y.i) (v-y.q) q)=gf q+((if (y.t,y.i)=q then y.q else 0)-(if (y.f,y.i)=q then y.q else 0))
    rw[k1,k1]
    by_cases e2:q=(y.t,y.i)
    ·subst e2
     by_cases e1:(y.t,y.i)=(y.f,y.i)
     ·rw[if_pos rfl,if_pos e1,if_pos rfl,if_pos e1.symm,e1]
      omega
     ·rw[if_pos rfl,if_neg e1,if_pos rfl,if_neg (λh=>e1 h.symm)]
      omega
    ·by_cases e1:q=(y.f,y.i)
     ·subst e1
      rw[if_neg e2,if_pos rfl,if_neg (λh=>e2 h.symm),if_pos rfl]
      omega
     ·rw[if_neg e2,if_neg e1,if_neg (λh=>e2 h.symm),if_neg (λh=>e1 h.symm)]
      omega
   ·have hBw:∀ j,(some B:Option Nat)=some j->w.heap.size<=j:=λj hj=>by
     injection hj with e
     rw[← e,HB0.out]
     exact Nat.le_refl _
    have h2:=HB1.out.grown Hg2.out HB1.out.size hBw
    exact h2.grown Hg4.out h2.size hBw
  ·have hkn:k=n:=by omega
   subst hkn
   have i1:¬ (k:Int)<(k:Int):=by omega
   obtain⟨D,hD⟩:=Hd.out
   have HD:=zh hD
   clear hD
   go_wp2_with fail
   have hb:=HD.out
   rw[List.take_of_length_le (by rw[← Hn.out];exact Nat.le_refl _)] at hb
   exact Hr.out _ _ ⟨B,D,rfl,⟨hb.1.mono (by omega),hb.2⟩,Hb.out⟩
end
end
section
section
open Go.RowKit
theorem drop_byte{s:ByteArray}{k:Nat}(h:k<s.size):s.data.toList.drop k=s[k] :: s.data.toList.drop (k+1):=by
 obtain⟨⟨l⟩⟩:=s
 exact List.drop_eq_getElem_cons (l:=l) h
theorem drop_all{s:ByteArray}:s.data.toList.drop s.size=[]:=List.drop_eq_nil_of_le (by rw[Array.length_toList];exact Nat.le_refl _)
theorem name_any(s:ByteArray)(w:World)(hs:s.size<=9223372036854775807) :
 Calls Tryz.prog 238 #[.string s] w λe w'=>e=.returned (.bool (nameB s))/\w=w':=by
 refine calls_cps ?_
 intro R hR
 have HR:=zh (show ∀ v,v=nameB s->R (.returned (.bool v)) w from λv hv=>hR.out _ _ ⟨by rw[hv],rfl⟩)
 clear hR
 by_cases h1:s.size<1
 ·have hf:=HR.out false (by unfold nameB;rw[decide_eq_false (by omega)];rfl)
  have HF:=zh hf
  have i1:(s.size:Int)<1:=by omega
  clear HR hf
  go_enter Tryz.func238,Tryz.ntmps238
  go_wp2
  exact HF.out
 by_cases h2:12<s.size
 ·have hf:=HR.out false (by unfold nameB;rw[decide_eq_false (show ¬ s.size<=12 by omega),Bool.and_false];rfl)
  have HF:=zh hf
  have i1:¬ (s.size:Int)<1:=by omega
  have i2:(12:Int)<(s.size:Int):=by omega
  clear HR hf
  go_enter Tryz.func238,Tryz.ntmps238
  go_wp2
  exact HF.out
 have hr:∀ v,v=nmL true s.data.toList->R (.returned (.bool v)) w:=λv hv=>HR.out v (by
  unfold nameB
  rw[decide_eq_true (show 1<=s.size by omega),decide_eq_true (show s.size<=12 by omega),hv]
  rfl)
 have HF:=zh hr
 have i1:¬ (s.size:Int)<1:=by omega
 have i2:¬ (12:Int)<(s.size:Int):=by omega
 clear HR hr
 go_enter Tryz.func238,Tryz.ntmps238
 go_wp2_with fail
 go_loopw [15] (λs15 wr=>∃ k:Nat,k<=s.size/\s15=.int .i64 (k:Int)/\Hid (nmL true s.data.toList=nmL (decide (k=0)) (s.data.toList.drop k))/\w=wr) (λs15 _=>s.size-(intOf s15).toNat)
 case atStart=>exact⟨0,Nat.zero_le _,rfl,zh rfl,rfl⟩
 case round =>
  obtain⟨k,hk,rfl,Hn,rfl⟩:=hrel
  by_cases hlt:k<s.size
  ·have hd:=drop_byte hlt
   have hb:(s[k].toNat:Int)<256:=by have:=s[k].toNat_lt;omega
   have HD:=zh hd
   have i3:(k:Int)<(s.size:Int):=by omega
   clear hd
   have step:∀ v,nmL (decide (k=0)) (s.data.toList.drop k)=v->Hid (nmL true s.data.toList=v):=λv hv=>zh (Hn.out.trans hv)
   have HS:=zh step
   clear step
   by_cases a1:97<=s[k].toNat
   ·by_cases a2:s[k].toNat<=122
    ·have j1:(97:Int)<=(s[k].toNat:Int):=by omega
     have j2:(s[k].toNat:Int)<=122:=by omega
     have hn:=HS.out (nmL false (s.data.toList.drop (k+1))) (by rw[HD.out,nmL];unfold lowB;rw[decide_eq_true a1,decide_eq_true a2];rfl)
     clear HS Hn
     go_wp2_with fail
     refine⟨⟨k+1,hlt,by go_num,?_,by trivial⟩,by simp[intOf]<;>omega⟩
     rw[decide_eq_false (by omega)]
     exact hn
    ·have j1:(97:Int)<=(s[k].toNat:Int):=by omega
     have j2:¬ (s[k].toNat:Int)<=122:=by omega
     have j3:¬ (s[k].toNat:Int)<48:=by omega
     have j4:(57:Int)<(s[k].toNat:Int):=by omega
     have hn:=HS.out false (by rw[HD.out,nmL];unfold lowB digB;rw[decide_eq_false a2,decide_eq_false (show ¬ s[k].toNat<=57 by omega)];simp)
     have hf:=HF.out false hn.out.symm
     have HF2:=zh hf
     clear HS Hn hn HF hf
     go_wp2
     all_goals exact HF2.out
   ·have j1:¬ (97:Int)<=(s[k].toNat:Int):=by omega
    by_cases k0:k=0
    ·have hn:=HS.out false (by rw[HD.out,nmL];unfold lowB;rw[decide_eq_false a1,decide_eq_true k0];simp)
     have hf:=HF.out false hn.out.symm
     have HF2:=zh hf
     have j2:((k:Int)==0)=true:=by rw[beq_iff_eq];omega
     clear HS Hn hn HF hf k0
     go_wp2
     all_goals exact HF2.out
    ·have j2:((k:Int)==0)=false:=by rw[beq_eq_false_iff_ne];omega
     by_cases b1:48<=s[k].toNat/\s[k].toNat<=57
     ·have j3:¬ (s[k].toNat:Int)<48:=by omega
      have j4:¬ (57:Int)<(s[k].toNat:Int):=by omega
      have hn:=HS.out (nmL false (s.data.toList.drop (k+1))) (by rw[HD.out,nmL];unfold lowB digB;rw[decide_eq_false a1,decide_eq_false k0,decide_eq_true b1.1,decide_eq_true b1.2];simp)
      clear HS Hn
      go_wp2_with fail
      refine⟨⟨k+1,hlt,by go_num,?_,by trivial⟩,by simp[intOf]<;>omega⟩
      rw[decide_eq_false (by omega)]
      exact hn
     ·have hn:=HS.out false (by
       rw[HD.out,nmL]
       unfold lowB digB
       rw[decide_eq_false a1]
       rcases Nat.lt_or_ge s[k].toNat 48 with h|h
       ·rw[decide_eq_false (show ¬ 48<=s[k].toNat by omega)];simp
       ·rw[decide_eq_false (show ¬ s[k].toNat<=57 by omega)];simp)
      have hf:=HF.out false hn.out.symm
      have HF2:=zh hf
      clear HS Hn hn HF hf
      rcases Nat.lt_or_ge s[k].toNat 48 with h|h
      ·have j3:(s[k].toNat:Int)<48:=by omega
       go_wp2
       all_goals exact HF2.out
      ·have j3:¬ (s[k].toNat:Int)<48:=by omega
       have j4:(57:Int)<(s[k].toNat:Int):=by omega
       go_wp2
       all_goals exact HF2.out
  ·have hkn:k=s.size:=by omega
   have i3:¬ (k:Int)<(s.size:Int):=by omega
   have hf:=HF.out true (by rw[Hn.out,hkn,drop_all];rfl)
   have HF2:=zh hf
   clear HF hf Hn hkn
   go_wp2
   exact HF2.out
end
end
section
section
open Go.RowKit
theorem str_inj{a b:ByteArray}(h:a.toList=b.toList):a=b:=by
 rw[Lib.toList_data,Lib.toList_data] at h
 obtain⟨⟨x⟩⟩:=a
 obtain⟨⟨y⟩⟩:=b
 dsimp only at h
 rw[h]
theorem enOk_no{l:List Mv}{y:Mv}(h:y∈l)(hy:mvOk y=false):enOk l=false:=by
 unfold enOk
 have:l.all mvOk=false:=by
  rw[List.all_eq_false]
  exact⟨y,h,by rw[hy];decide⟩
 rw[this]
 rfl
def mvS(l:List Mv):Prop:=∀ m∈l,m.f.size<=9223372036854775807/\m.t.size<=9223372036854775807/\m.i.size<=9223372036854775807
theorem entry_any(A:Option Addr)(n c:Nat)(l:List Mv)(w:World)(h:SlE mvE 4 w A n l)(hs:mvS l)(hn:n<=9223372036854775807) :
 Calls Tryz.prog 121 #[.slice A n c] w λe w'=>e=.returned (.bool (enOk l))/\Below w.heap.size w w':=by
 refine calls_cps ?_
 intro R hR
 have Hr:=zh (show ∀ v w',v=enOk l->Below w.heap.size w w'->R (.returned (.bool v)) w' from λv w' hv hb=>hR.out _ _ ⟨by rw[hv],hb⟩)
 have HX:=zh h
 have Hs:=zh hs
 have Hn:=zh h.1
 clear hR h hs
 go_enter Tryz.func121,Tryz.ntmps121
 go_wp2_with fail
 go_loopw [7] (λs7 wr=>∃ k:Nat,k<=n/\s7=.int .i64 (k:Int)/\Hid ((l.take k).all mvOk=true)/\Hid (Below w.heap.size w wr)) (λs7 _=>n-(intOf s7).toNat)
 case atStart=>exact⟨0,Nat.zero_le _,rfl,zh rfl,zh (Below.refl _ _)⟩
 case round =>
  obtain⟨k,hk,rfl,Hv,Hb⟩:=hrel
  by_cases hlt:k<n
  ·obtain⟨b0,o,y,rfl,hb,hy,q0,q1,q2,q3⟩:=(HX.out.below Hb.out).mv_at hlt
   have hm:=List.mem_of_getElem? hy
   obtain⟨z1,z2,z3⟩:=Hs.out y hm
   have i1:(k:Int)<(n:Int):=by omega
   have HB1:=zh (below_al1' Hb.out (.cells #[.string y.f,.string y.t,.string y.i,.int .i64 y.q] 264))
   have N1:=zh (name_any y.f (wr.alloc (.cells #[.string y.f,.string y.t,.string y.i,.int .i64 y.q] 264)) z1)
   have N2:=zh (name_any y.t (wr.alloc (.cells #[.string y.f,.string y.t,.string y.i,.int .i64 y.q] 264)) z2)
   have N3:=zh (name_any y.i (wr.alloc (.cells #[.string y.f,.string y.t,.string y.i,.int .i64 y.q] 264)) z3)
   have hno:mvOk y=false->Hid (R (.returned (.bool false)) (wr.alloc (.cells #[.string y.f,.string y.t,.string y.i,.int .i64 y.q] 264))):=λh=>zh (Hr.out false _ (enOk_no hm h).symm HB1.out)
   have hyes:mvOk y=true->Hid ((l.take (k+1)).all mvOk=true):=λh=>zh (by rw[List.take_add_one,hy,List.all_append,Hv.out];simp[h])
   clear hy hm
   cases n1:nameB y.f
   ·rw[n1] at N1
    clear N2 N3
    have hf:=hno (by unfold mvOk;rw[n1];rfl)
    clear hno hyes
    go_wp2_with (first
     |(go_at_call 238;(with_reducible refine N1.out.mono ?_);rintro e w' ⟨rfl,rfl⟩))
    all_goals exact hf.out
   ·rw[n1] at N1
    cases n2:nameB y.t
    ·rw[n2] at N2
     clear N3
     have hf:=hno (by unfold mvOk;rw[n1,n2];rfl)
     clear hno hyes
     go_wp2_with (first
      |(go_at_call 238;(with_reducible refine N1.out.mono ?_);rintro e w' ⟨rfl,rfl⟩)
      |(go_at_call 238;(with_reducible refine N2.out.mono ?_);rintro e w' ⟨rfl,rfl⟩))
     all_goals exact hf.out
    ·rw[n2] at N2
     cases n3:nameB y.i
     ·rw[n3] at N3
      have hf:=hno (by unfold mvOk;rw[n1,n2,n3];rfl)
      clear hno hyes
      go_wp2_with (first
       |(go_at_call 238;(with_reducible refine N1.out.mono ?_);rintro e w' ⟨rfl,rfl⟩)
       |(go_at_call 238;(with_reducible refine N2.out.mono ?_);rintro e w' ⟨rfl,rfl⟩)
       |(go_at_call 238;(with_reducible refine N3.out.mono ?_);rintro e w' ⟨rfl,rfl⟩))
      all_goals exact hf.out
     ·rw[n3] at N3
      by_cases n4:y.f=y.t
      ·have e4:(y.f.toList==y.t.toList)=true:=by rw[beq_iff_eq,n4]
       have hf:=hno (by unfold mvOk;rw[n1,n2,n3,decide_eq_true n4];rfl)
       clear n4
       clear hno hyes
       go_wp2_with (first
        |(go_at_call 238;(with_reducible refine N1.out.mono ?_);rintro e w' ⟨rfl,rfl⟩)
        |(go_at_call 238;(with_reducible refine N2.out.mono ?_);rintro e w' ⟨rfl,rfl⟩)
        |(go_at_call 238;(with_reducible refine N3.out.mono ?_);rintro e w' ⟨rfl,rfl⟩))
       all_goals exact hf.out
      ·have e4:(y.f.toList==y.t.toList)=false:=by rw[beq_eq_false_iff_ne];exact λh=>n4 (str_inj h)
       by_cases n5:y.q<1
       ·have hf:=hno (by unfold mvOk;rw[n1,n2,n3,decide_eq_false n4,decide_eq_false (show ¬ 1<=y.q by omega)];rfl)
        clear n4
        clear hno hyes
        go_wp2_with (first
         |(go_at_call 238;(with_reducible refine N1.out.mono ?_);rintro e w' ⟨rfl,rfl⟩)
         |(go_at_call 238;(with_reducible refine N2.out.mono ?_);rintro e w' ⟨rfl,rfl⟩)
         |(go_at_call 238;(with_reducible refine N3.out.mono ?_);rintro e w' ⟨rfl,rfl⟩))
        all_goals exact hf.out
       ·by_cases n6:1000000000<y.q
        ·have hf:=hno (by unfold mvOk;rw[n1,n2,n3,decide_eq_false n4,decide_eq_true (show 1<=y.q by omega),decide_eq_false (show ¬ y.q<=1000000000 by omega)];rfl)
         clear n4
         clear hno hyes
         go_wp2_with (first
          |(go_at_call 238;(with_reducible refine N1.out.mono ?_);rintro e w' ⟨rfl,rfl⟩)
          |(go_at_call 238;(with_reducible refine N2.out.mono ?_);rintro e w' ⟨rfl,rfl⟩)
          |(go_at_call 238;(with_reducible refine N3.out.mono ?_);rintro e w' ⟨rfl,rfl⟩))
         all_goals exact hf.out
        ·have hf:=hyes (by unfold mvOk;rw[n1,n2,n3,decide_eq_false n4,decide_eq_true (show 1<=y.q by omega),decide_eq_true (show y.q<=1000000000 by omega)];rfl)
         clear hno hyes n4
         go_wp2_with (first
          |(go_at_call 238;(with_reducible refine N1.out.mono ?_);rintro e w' ⟨rfl,rfl⟩)
          |(go_at_call 238;(with_reducible refine N2.out.mono ?_);rintro e w' ⟨rfl,rfl⟩)
          |(go_at_call 238;(with_reducible refine N3.out.mono ?_);rintro e w' ⟨rfl,rfl⟩))
         exact⟨⟨k+1,hlt,by go_num,hf,HB1⟩,by simp[intOf]<;>omega⟩
  ·have hkn:k=n:=by omega
   subst hkn
   have i1:¬ (k:Int)<(k:Int):=by omega
   have ha:l.all mvOk=true:=by
    have:=Hv.out
    rwa [List.take_of_length_le (by rw[← Hn.out];exact Nat.le_refl _)] at this
   have hf:∀ v,v=(decide (1<=l.length)&&decide (l.length<=32))->R (.returned (.bool v)) wr:=λv hv=>Hr.out v wr (by
    rw[hv]
    unfold enOk
    rw[ha,Bool.true_and]) Hb.out
   rw[← Hn.out] at hf
   have HF:=zh hf
   clear hf ha Hr
   by_cases h1:k<1
   ·have j1:¬ (k:Int)>=1:=by omega
    have hf:=HF.out false (by rw[decide_eq_false (by omega)];rfl)
    have HF2:=zh hf
    clear HF hf
    go_wp2
    exact HF2.out
   ·have j1:(k:Int)>=1:=by omega
    by_cases h2:k<=32
    ·have j2:(k:Int)<=32:=by omega
     have hf:=HF.out true (by rw[decide_eq_true (show 1<=k by omega),decide_eq_true h2];rfl)
     have HF2:=zh hf
     clear HF hf
     go_wp2
     exact HF2.out
    ·have j2:¬ (k:Int)<=32:=by omega
     have hf:=HF.out false (by rw[decide_eq_false h2,Bool.and_false])
     have HF2:=zh hf
     clear HF hf
     go_wp2
     exact HF2.out
end
end
section
section
open Go.RowKit
def plE(p:Pl):List Value:=[.string p.1,.string p.2]
theorem plE_len(p:Pl):(plE p).length=2:=rfl
theorem infoPl:(Tryz.prog.info? 268).map (λi=>(i.zero,i.size,i.bytes))=some (some (.agg #[.string ByteArray.empty,.string ByteArray.empty]),2,32):=by kernel_rfl
theorem elemPl:ElemOk Tryz.prog 564 268 2 32:=ElemOk.of (z:=.agg #[.string ByteArray.empty,.string ByteArray.empty]) Tryz.underlying564 infoPl rfl (by omega)
theorem places_any(w:World)(A:Option Addr)(n c:Nat)(l:List Mv)(hX:SlE mvE 4 w A n l)(hn:n<=32) :
 Calls Tryz.prog 401 #[.slice A n c] w λe w'=>∃ A' m c',e=.returned (.slice A' m c')/\SlE plE 2 w' A' m (plcs l)/\m=2*n/\Below w.heap.size w w':=by
 refine calls_cps ?_
 intro R hR
 have Hr:=zh hR.out
 have HX:=zh hX
 have Hn:=zh hX.1
 clear hR hX
 go_enter Tryz.func401,Tryz.ntmps401
 go_wp2_with fail
 go_loopw [3,8] (λs3 s8 wr=>∃ (k m c':Nat) (A':Option Addr),k<=n/\s8=.int .i64 (k:Int)/\s3=.slice A' m c'/\Hid (m=2*k)/\Hid (wr.ownsRow w.heap.size 268 2 (.slice A' m c') m ((plcs (l.take k)).flatMap plE))/\Hid (Below w.heap.size w wr)) (λ_ s8 _=>n-(intOf s8).toNat)
 case atStart=>exact⟨0,0,0,none,Nat.zero_le _,rfl,rfl,zh rfl,zh (World.ownsRow_nil _ _ _ _),zh (Below.refl _ _)⟩
 case round =>
  obtain⟨k,m,c',A',hk,rfl,rfl,Hm,Ho,Hb⟩:=hrel
  by_cases hlt:k<n
  ·obtain⟨b0,o,y,rfl,hb,hy,q0,q1,q2,q3⟩:=(HX.out.below Hb.out).mv_at hlt
   have i1:(k:Int)<(n:Int):=by omega
   have Hy:=zh hy
   have hm64:m<=64:=by have:=Hm.out;omega
   have HB1:=zh (below_al1' (below_al1' Hb.out (.cells #[.string y.f,.string y.t,.string y.i,.int .i64 y.q] 264)) (.cells #[.string y.f,.string y.i,.string y.t,.string y.i] 268))
   have HO1:=zh ((Ho.out.alloc (.cells #[.string y.f,.string y.t,.string y.i,.int .i64 y.q] 264)).alloc (.cells #[.string y.f,.string y.i,.string y.t,.string y.i] 268))
   clear hy
   go_wp2_with (at_builtin;refine wpList_app rfl (.tmp 12) (.tmp 23) _ rfl elemPl w.heap.size _ _ _ rfl HO1.out _ _ _ _ rfl (Sl.newAt (wr.alloc (.cells #[.string y.f,.string y.t,.string y.i,.int .i64 y.q] 264)) #[.string y.f,.string y.i,.string y.t,.string y.i] _ 2 2 rfl (by simp)) (by simp[Value.oneCell']) (by unfold maxLen;omega) (by omega) HB1.out.size ?_;intro A2 c2 w2 ho2 hg2 hl2;have HO2:=zh ho2;have HG2:=zh hg2;clear ho2 hg2 hl2)
   refine⟨⟨k+1,m+2,c2,A2,hlt,by go_num,rfl,zh (by have:=Hm.out;omega),zh ?_,zh ?_⟩,by simp[intOf]<;>omega⟩
   ·have h2:=HO2.out
    rw[List.take_add_one,Hy.out]
    have e:(plcs (l.take k++(some y).toList)).flatMap plE=(plcs (l.take k)).flatMap plE++[.string y.f,.string y.i,.string y.t,.string y.i]:=by
     unfold plcs
     rw[List.flatMap_append,List.flatMap_append]
     rfl
    rw[e]
    exact h2
   ·exact below_own HB1.out HO1.out (Nat.le_refl _) HB1.out.size HG2.out
  ·have hkn:k=n:=by omega
   subst hkn
   have i1:¬ (k:Int)<(k:Int):=by omega
   go_wp2_with fail
   have ho:=Ho.out
   rw[List.take_of_length_le (by rw[← Hn.out];exact Nat.le_refl _)] at ho
   refine Hr.out _ _ ⟨A',m,c',rfl,SlE.of_own ho ?_,Hm.out,Hb.out⟩
   have:=ho.1
   rw[flat_length plE_len] at this
   omega
theorem out_take(l:List UInt8):(l.take 3==[111,117,116])=[111,117,116].isPrefixOf l:=by
 rw[Bool.eq_iff_iff,beq_iff_eq,List.isPrefixOf_iff_prefix,List.prefix_iff_eq_take]
 exact eq_comm
theorem hpre_any(s:ByteArray)(w:World)(hs:s.size<=9223372036854775807) :
 Calls Tryz.prog 244 #[.string s,.string ⟨#[111,117,116]⟩] w λe w'=>e=.returned (.bool (outB s))/\w=w':=by
 refine calls_cps ?_
 intro R hR
 have HR:=zh (show ∀ v,v=outB s->R (.returned (.bool v)) w from λv hv=>hR.out _ _ ⟨by rw[hv],rfl⟩)
 clear hR
 by_cases h:s.size<3
 ·have i1:¬ (s.size:Int)>=3:=by omega
  have hf:=HR.out false (Eq.symm (by
   unfold outB
   rw[Bool.eq_false_iff]
   intro hp
   have:=(List.isPrefixOf_iff_prefix.1 hp).length_le
   rw[Array.length_toList] at this
   have h2:s.data.size=s.size:=rfl
   simp at this
   omega))
  have HF:=zh hf
  clear HR hf
  go_enter Tryz.func244,Tryz.ntmps244
  go_wp2
  exact HF.out
 ·have i1:(s.size:Int)>=3:=by omega
  go_enter Tryz.func244,Tryz.ntmps244
  go_wp2_with fail
  refine HR.out _ ?_
  unfold outB
  rw[Lib.toList_data,Lib.extract_data,Nat.sub_zero,List.drop_zero]
  exact out_take _
theorem hasp_any(s:ByteArray)(w:World)(hs:s.size<=9223372036854775807) :
 Calls Tryz.prog 402 #[.string s,.string ⟨#[111,117,116]⟩] w λe w'=>e=.returned (.bool (outB s))/\w=w':=by
 refine calls_cps ?_
 intro R hR
 have HR:=zh (hR.out (.returned (.bool (outB s))) w ⟨rfl,rfl⟩)
 clear hR
 go_enter Tryz.func402,Tryz.ntmps402
 go_wp2_with (go_at_call 244;(with_reducible refine (hpre_any _ _ hs).mono ?_);rintro e w' ⟨rfl,rfl⟩)
 exact HR.out
theorem refW_cons(b:Pl->Int)(l:List Mv)(p:Pl)(r:List Pl)(e:Int):refW b l (p :: r) e=if mxQ<b p+enA l p\/b p+enA l p < -mxQ then 5 else refW b l r (if b p+enA l p<0/\outB p.1=false then 10 else e):=by
 conv=>lhs;unfold refW
theorem below_dr{b:Nat}{W w:World}(h:Below b W w)(q:Nat):Below b W (w.drewN q):=⟨h.os,h.tape,h.output,h.size,h.block⟩
theorem plcs_z{l:List Mv}(hz:mvZ l):∀ p∈plcs l,PlZ p:=by
 intro p hp
 unfold plcs at hp
 obtain⟨m,hm,hp⟩:=List.mem_flatMap.1 hp
 have:=hz.2 m hm
 rcases List.mem_cons.1 hp with rfl|hp
 ·exact⟨by dsimp only;omega,by dsimp only;omega⟩
 ·rcases List.mem_cons.1 hp with rfl|hp
  ·exact⟨by dsimp only;omega,by dsimp only;omega⟩
  ·cases hp
theorem refused_any(w:World)(b n0:Nat)(f:Pl->Int)(A:Option Addr)(n c:Nat)(l:List Mv)(h:BalZ w b n0 f)(hf:BalB f)(hX:SlE mvE 4 w A n l)(hz:mvZ l) :
 Calls Tryz.prog 376 #[.map (some b),.slice A n c] w λe w'=>e=.returned (.int .i64 (refE f l))/\Below w.heap.size w w':=by
 refine calls_cps ?_
 intro R hR
 have Hr:=zh (show ∀ v w',v=refE f l->Below w.heap.size w w'->R (.returned (.int .i64 v)) w' from λv w' hv hb=>hR.out _ _ ⟨by rw[hv],hb⟩)
 have HX:=zh hX
 have HB:=zh h
 have Hf:=zh hf
 have Hz:=zh hz
 have hn:n<=32:=by rw[hX.1];exact hz.1
 clear hR hX hz hf h
 go_enter Tryz.func376,Tryz.ntmps376
 go_wp2_with fail
 refine (changes_any w A n c l HX.out Hz.out).mono ?_
 rintro e w1 ⟨B,D,rfl,hD,hb1⟩
 have HD:=zh hD
 have HB1:=zh hb1
 clear hD hb1
 go_wp2_with fail
 refine (places_any w1 A n c l (HX.out.below HB1.out) hn).mono ?_
 rintro e w2 ⟨A2,m2,c2,rfl,hp2,hm2,hb2⟩
 have HP:=zh hp2
 have HM:=zh hm2
 have hm64:m2<=64:=by omega
 have HB2:=zh (HB1.out.trans (hb2.mono HB1.out.size))
 have HD2:=zh (HD.out.keep (hb2.block B HD.out.lt))
 have HPn:=zh hp2.1
 clear hp2 hm2 hb2
 go_wp2_with fail
 go_loopw [5,15] (λs5 s15 wr=>∃ (k:Nat) (ev:Int),k<=m2/\s15=.int .i64 (k:Int)/\s5=.int .i64 ev/\Hid (refE f l=refW f l ((plcs l).drop k) ev)/\Hid (Below w2.heap.size w2 wr)) (λ_ s15 _=>m2-(intOf s15).toNat)
 case atStart=>exact⟨0,0,Nat.zero_le _,rfl,rfl,zh rfl,zh (Below.refl _ _)⟩
 case round =>
  obtain⟨k,ev,hk,rfl,rfl,He,Hb⟩:=hrel
  by_cases hlt:k<m2
  ·obtain⟨b0,o,p,rfl,hb,hy,hc⟩:=(HP.out.below Hb.out).at_ plE_len hlt
   have q0:wr.cell? ⟨b0,o+k*2,none⟩=some (.string p.1):=hc 0 _ rfl
   have q1:wr.cell? ⟨b0,o+k*2+1,none⟩=some (.string p.2):=hc 1 _ rfl
   have i1:(k:Int)<(m2:Int):=by omega
   have hdr:(plcs l).drop k=p :: (plcs l).drop (k+1):=by
    obtain⟨h1,h2⟩:=List.getElem?_eq_some_iff.1 hy
    rw[← h2]
    exact List.drop_eq_getElem_cons h1
   have hpz:PlZ p:=plcs_z Hz.out p (List.mem_of_getElem? hy)
   obtain⟨W1,hW1⟩:∃ W1,wr.alloc (.cells #[.string p.1,.string p.2] 268)=W1:=⟨_,rfl⟩
   have hbox:W1.heap[wr.heap.size]?=some (.cells #[.string p.1,.string p.2] 268 (0,0)):=by rw[← hW1];exact heap_alloc_new wr _
   have hB1:Below w2.heap.size w2 W1:=by rw[← hW1];exact below_al1' Hb.out _
   have l1:∀ q,(Instr.lookup 161 (.map (some b)) (.agg #[.string p.1,.string p.2]) false).run Tryz.prog (W1.drewN q)=.ok (.int .i64 (f p)) (W1.drewN q):=λq=>by
    have hb0:=((HB.out.keep (HB2.out.block b HB.out.lt)).keep (hB1.block b (Nat.lt_of_lt_of_le HB.out.lt HB2.out.size)))
    obtain⟨D0,h0,_⟩:=hb0
    have h1:BalD (W1.drewN q) b n0 D0 f:=h0
    exact h1.look plT1 hpz
   have l2:∀ q,(Instr.lookup 160 (.map (some B)) (.agg #[.string p.1,.string p.2]) false).run Tryz.prog (W1.drewN q)=.ok (.int .i64 (enA l p)) (W1.drewN q):=λq=>by
    have h1:BalD (W1.drewN q) B 64 D (enA l):=HD2.out.keep (hB1.block B HD2.out.lt)
    exact h1.look plT2 hpz
   obtain⟨c0,c1,-⟩:=cells2 hbox
   have g1:=Hf.out p
   have g2:=enA_bd (l:=l) (λm hm=>by have:=Hz.out.2 m hm;omega) p
   have g3:=Hz.out.1
   have hwr:IntKind.i64.wrap (f p+enA l p)=f p+enA l p:=IntWalk.i64_in _ (by omega)
   have hst:=He.out
   rw[hdr,refW_cons] at hst
   obtain⟨x,hx⟩:∃ x,f p=x:=⟨_,rfl⟩
   obtain⟨y,hy'⟩:∃ y,enA l p=y:=⟨_,rfl⟩
   rw[hx,hy'] at hst hwr
   rw[hx] at l1 g1
   rw[hy'] at l2 g2
   clear hx hy'
   have HW1:=zh hB1
   have hend:Below w2.heap.size w2 W1->True:=λ_=>trivial
   have HE:∀ q,Hid (Below w.heap.size w (W1.drewN q)):=λq=>zh (below_dr (HB2.out.trans (hB1.mono HB2.out.size)) q)
   have HE2:∀ q,Hid (Below w2.heap.size w2 (W1.drewN q)):=λq=>zh (below_dr hB1 q)
   have HPz:p.1.size<=9223372036854775807:=by have:=hpz.1;omega
   have hne:w.heap.size<=w.heap.size:=Nat.le_refl _
   clear hy hc hdr hbox hB1 g1 g2 g3 hend hne hpz
   by_cases v1:mxQ<x+y
   ·have hf:=λq=>Hr.out 5 (W1.drewN q) (by rw[hst,if_pos (.inl v1)]) (HE q).out
    have HF:=zh hf
    unfold mxQ at v1
    clear hst hf He Hr
    go_upto_region 6 with fail
    go_quiet (fail)
    go_wp2
    exact HF.out _
   by_cases v2:x+y < -mxQ
   ·have hf:=λq=>Hr.out 5 (W1.drewN q) (by rw[hst,if_pos (.inr v2)]) (HE q).out
    have HF:=zh hf
    unfold mxQ at v1 v2
    clear hst hf He Hr
    go_upto_region 6 with fail
    go_quiet (fail)
    go_wp2
    exact HF.out _
   rw[if_neg (by omega)] at hst
   unfold mxQ at v1 v2
   by_cases v3:x+y<0
   ·have hpr:∀ x,Hid (Calls Tryz.prog 402 #[.string p.1,.string ⟨#[111,117,116]⟩] (W1.drewN x) λe w'=>e=.returned (.bool (outB p.1))/\W1.drewN x=w'):=λx=>zh (hasp_any p.1 _ HPz)
    cases ho:outB p.1
    ·rw[if_pos ⟨v3,ho⟩] at hst
     rw[ho] at hpr
     have HS:=zh hst
     clear hst He Hr ho
     go_upto_region 6 with fail
     go_quiet (fail)
     go_wp2_with (go_at_call 402;(with_reducible refine (hpr _).out.mono ?_);rintro e w' ⟨rfl,rfl⟩)
     exact⟨⟨k+1,10,hlt,by go_num,rfl,HS,HE2 _⟩,by simp[intOf]<;>omega⟩
    ·rw[if_neg (λh=>by rw[ho] at h;exact absurd h.2 (by decide))] at hst
     rw[ho] at hpr
     have HS:=zh hst
     clear hst He Hr ho
     go_upto_region 6 with fail
     go_quiet (fail)
     go_wp2_with (go_at_call 402;(with_reducible refine (hpr _).out.mono ?_);rintro e w' ⟨rfl,rfl⟩)
     exact⟨⟨k+1,ev,hlt,by go_num,rfl,HS,HE2 _⟩,by simp[intOf]<;>omega⟩
   ·rw[if_neg (λh=>v3 h.1)] at hst
    have HS:=zh hst
    clear hst He Hr
    go_upto_region 6 with fail
    go_quiet (fail)
    go_wp2_with fail
    exact⟨⟨k+1,ev,hlt,by go_num,rfl,HS,HE2 _⟩,by simp[intOf]<;>omega⟩
  ·have hkn:k=m2:=by omega
   subst hkn
   have i1:¬ (k:Int)<(k:Int):=by omega
   have hf:=Hr.out ev wr (by rw[He.out,List.drop_eq_nil_of_le (by rw[← HPn.out];exact Nat.le_refl _)];rfl) (HB2.out.trans (Hb.out.mono HB2.out.size))
   have HF:=zh hf
   clear Hr hf He
   go_wp2
   exact HF.out
end
end
section
section
open Go.RowKit Go.Maps
def bkC(dk mb:Nat)(v:Value)(b:Bk):Array Value:=#[.pointer (some ⟨dk,0,none⟩),v,.map (some mb),.bool b.br]
def Ent(W:World)(F:Nat->Prop)(v:Value)(E:List (List Mv)):Prop:=
 ∃ outer,W.ownsRow 0 165 1 v E.length outer/\(∀ g,v.ownBlock=some g->F g)/\
  ∀ (i:Nat) (e:List Mv),E[i]?=some e->∃ Ai ci,outer[i]?=some (.slice Ai e.length ci)/\W.ownsRow 0 264 4 (.slice Ai e.length ci) e.length (e.flatMap mvE)/\∀ g,(Value.slice Ai e.length ci).ownBlock=some g->F g
def Bok(W:World)(F:Nat->Prop)(a dk:Nat)(b:Bk):Prop:=
 F a/\∃ A c mb n,W.heap[a]?=some (.cells (bkC dk mb (.slice A b.E.length c) b) 164 (0,0))/\Ent W F (.slice A b.E.length c) b.E/\F mb/\n<=64*b.E.length/\BalZ W mb n (balE b.E)
structure Inv(d:Dk)(b:Bk):Prop where
 ok:d.Ok
 jour:Jour b.E
 ent:∀ e∈b.E,enOk e=true
 fit:∃ t,d.B=b.E.flatMap encE++t/\(b.br=false->t=[]/\d.down=false/\d.safe=d.B.length)/\(b.br=true->d.down=true/\d.safe=(b.E.flatMap encE).length/\∃ l,t=encE l/\enOk l=true/\refE (balE b.E) l=0)
theorem enc_pos(e:List Mv):7<=(encE e).length:=by rw[encE_len];omega
theorem enc_many:∀ (E:List (List Mv)),7*E.length<=(E.flatMap encE).length
 |[]=>by simp
 |e :: E=>by
  have:=enc_many E
  have:=enc_pos e
  rw[List.flatMap_cons,List.length_append,List.length_cons]
  omega
theorem Inv.few{d:Dk}{b:Bk}(h:Inv d b):b.E.length<=9362:=by
 obtain⟨t,ht,_⟩:=h.fit
 have h1:=enc_many b.E
 have h2:=h.ok.1
 rw[ht,List.length_append] at h2
 omega
theorem Inv.bal{d:Dk}{b:Bk}(h:Inv d b):BalB (balE b.E):=λq=>by
 obtain⟨h1,h2,_⟩:=h.jour.now q
 unfold mxQ at h1 h2
 omega
section
variable{W w:World}{F S:Nat->Prop}{a dk:Nat}{b:Bk}{v:Value}{E:List (List Mv)}
theorem Ent.keep(h:Ent W F v E)(hk:∀ j,F j->∀ C ty,W.heap[j]?=some (.cells C ty (0,0))->(ty=165\/ty=264)->w.heap[j]?=W.heap[j]?):Ent w F v E:=by
 obtain⟨o,h1,h2,h3⟩:=h
 refine⟨o,own_heap h1 λg hg=>?_,h2,λi e he=>?_⟩
 ·obtain⟨C,hC⟩:=own_blk h1 hg
  exact hk g (h2 g hg) C _ hC (.inl rfl)
 ·obtain⟨Ai,ci,e1,e2,e3⟩:=h3 i e he
  refine⟨Ai,ci,e1,own_heap e2 λg hg=>?_,e3⟩
  obtain⟨C,hC⟩:=own_blk e2 hg
  exact hk g (e3 g hg) C _ hC (.inr rfl)
theorem Bok.keep(h:Bok W F a dk b)(h1:∀ j,F j->∀ C ty,W.heap[j]?=some (.cells C ty (0,0))->(ty=165\/ty=264\/ty=164)->w.heap[j]?=W.heap[j]?)(h2:∀ j,F j->(∃ es clock,W.heap[j]?=some (.map es clock))->w.heap[j]?=W.heap[j]?):Bok w F a dk b:=by
 obtain⟨q0,A,c,mb,n,q1,q2,q3,q4,q5⟩:=h
 refine⟨q0,A,c,mb,n,(h1 a q0 _ _ q1 (.inr (.inr rfl))).trans q1,q2.keep λj hj C ty hC ht=>h1 j hj C ty hC (ht.imp id .inl),q3,q4,q5.keep (h2 mb q3 ?_)⟩
 obtain⟨D,⟨⟨es,clock,hb,_⟩,_⟩,_⟩:=q5
 exact⟨es,clock,hb⟩
theorem Bok.below(h:Bok W F a dk b)(k:Below W.heap.size W w):Bok w F a dk b:=
 h.keep (λj _ _C _ty hC _=>k.block j (Array.getElem?_eq_some_iff.1 hC).1) (λj _ ⟨_,_,hC⟩=>k.block j (Array.getElem?_eq_some_iff.1 hC).1)
theorem Bok.disk{d:Dk}(h:Bok W F a dk b)(hd:Dsk W F dk d)(k:Kx (DkS W F dk) W w):Bok w F a dk b:=by
 have hdk:∃ C,W.heap[dk]?=some (.cells C 158 (0,0)):=by
  obtain⟨_,_,A,c,h2,_,_⟩:=hd
  exact⟨_,h2⟩
 obtain⟨C0,hC0⟩:=hdk
 refine h.keep (λj hj C ty hC ht=>k.block j (Array.getElem?_eq_some_iff.1 hC).1 ?_) (λj hj ⟨es,cl,hC⟩=>k.block j (Array.getElem?_eq_some_iff.1 hC).1 ?_)
 ·rintro (rfl|⟨_,C2,h2⟩)
  ·rw[hC0] at hC
   simp only[Option.some.injEq,Obj.cells.injEq] at hC
   rcases ht with rfl|rfl|rfl<;>exact absurd hC.2.1 (by decide)
  ·rw[h2] at hC
   simp only[Option.some.injEq,Obj.cells.injEq] at hC
   rcases ht with rfl|rfl|rfl<;>exact absurd hC.2.1 (by decide)
 ·rintro (rfl|⟨_,C2,h2⟩)
  ·rw[hC0] at hC
   simp at hC
  ·rw[h2] at hC
   simp at hC
theorem Bok.lt(h:Bok W F a dk b):a<W.heap.size:=by
 obtain⟨q0,A,c,mb,n,q1,_⟩:=h
 exact (Array.getElem?_eq_some_iff.1 q1).1
theorem Bok.cells(h:Bok W F a dk b):∃ A c mb n,W.cell? ⟨a,0,none⟩=some (.pointer (some ⟨dk,0,none⟩))/\W.cell? ⟨a,1,none⟩=some (.slice A b.E.length c)/\W.cell? ⟨a,2,none⟩=some (.map (some mb))/\W.cell? ⟨a,3,none⟩=some (.bool b.br)/\
 Hid (∀ j,W.frozen? ⟨a,j,none⟩=false)/\Hid (Ent W F (.slice A b.E.length c) b.E)/\Hid (n<=64*b.E.length)/\Hid (BalZ W mb n (balE b.E))/\Hid (F mb)/\Hid (W.heap[a]?=some (.cells (bkC dk mb (.slice A b.E.length c) b) 164 (0,0))):=by
 obtain⟨q0,A,c,mb,n,q1,q2,q3,q4,q5⟩:=h
 have q1':=q1
 unfold bkC at q1'
 obtain⟨c0,c1,c2,c3,f0⟩:=cells4 q1'
 exact⟨A,c,mb,n,c0,c1,c2,c3,zh f0,zh q2,zh q4,zh q5,zh q3,zh q1⟩
end
theorem broken_any(w:World)(F:Nat->Prop)(a dk:Nat)(b:Bk)(h:Bok w F a dk b):Calls Tryz.prog 342 #[.pointer (some ⟨a,0,none⟩)] w λe w'=>e=.returned (.bool b.br)/\w=w':=by
 refine calls_cps ?_
 intro R hR
 have HF:=zh (hR.out (.returned (.bool b.br)) w ⟨rfl,rfl⟩)
 obtain⟨A,c,mb,n,c0,c1,c2,c3,-⟩:=h.cells
 clear hR h
 cases hb:b.br
 all_goals
  rw[hb] at c3 HF
  go_enter Tryz.func342,Tryz.ntmps342
  go_wp2
  exact HF.out
theorem count_any(w:World)(F:Nat->Prop)(a dk:Nat)(b:Bk)(h:Bok w F a dk b):Calls Tryz.prog 282 #[.pointer (some ⟨a,0,none⟩)] w λe w'=>e=.returned (.int .i64 (b.E.length:Int))/\w=w':=by
 refine calls_cps ?_
 intro R hR
 have HF:=zh (hR.out (.returned (.int .i64 (b.E.length:Int))) w ⟨rfl,rfl⟩)
 obtain⟨A,c,mb,n,c0,c1,c2,c3,-⟩:=h.cells
 clear hR h
 go_enter Tryz.func282,Tryz.ntmps282
 go_wp2
 exact HF.out
theorem would_any(w:World)(F:Nat->Prop)(a dk:Nat)(d:Dk)(b:Bk)(A:Option Addr)(n c:Nat)(l:List Mv)(h:Bok w F a dk b)(hi:Inv d b)(hX:SlE mvE 4 w A n l)(hs:mvS l)(hn:n<=9223372036854775807) :
 Calls Tryz.prog 344 #[.pointer (some ⟨a,0,none⟩),.slice A n c] w λe w'=>e=.returned (.int .i64 (b.would l))/\Below w.heap.size w w':=by
 refine calls_cps ?_
 intro R hR
 have Hr:=zh (show ∀ v w',v=b.would l->Below w.heap.size w w'->R (.returned (.int .i64 v)) w' from λv w' hv hb=>hR.out _ _ ⟨by rw[hv],hb⟩)
 have HK:=zh (broken_any w F a dk b h)
 have HE:=zh (entry_any A n c l w hX hs hn)
 have HX:=zh hX
 have HM:=zh h
 have HI:=zh hi
 clear hR h hi hX hs
 cases hb:b.br
 ·rw[hb] at HK
  cases he:enOk l
  ·rw[he] at HE
   have hf:=λw'=>Hr.out 1 w' (by unfold Bk.would;rw[hb,he];rfl)
   have HF:=zh hf
   clear Hr hf hb he
   go_enter Tryz.func344,Tryz.ntmps344
   go_wp2_with (first
    |(go_at_call 342;(with_reducible refine HK.out.mono ?_);rintro e w' ⟨rfl,rfl⟩)
    |(go_at_call 121;(with_reducible refine HE.out.mono ?_);rintro e w' ⟨rfl,hb⟩))
   exact HF.out _ hb
  ·rw[he] at HE
   have hf:=λw'=>Hr.out (refE (balE b.E) l) w' (by unfold Bk.would;rw[hb,he];rfl)
   have HF:=zh hf
   have HZ:=zh (mvZ_of he)
   clear Hr hf hb he
   go_enter Tryz.func344,Tryz.ntmps344
   go_wp2_with (go_at_call 342;(with_reducible refine HK.out.mono ?_);rintro e w' ⟨rfl,rfl⟩)
   refine HE.out.mono ?_
   rintro e w1 ⟨rfl,hb1⟩
   obtain⟨A1,c1,mb,n1,d0,d1,d2,d3,_,_,HN,HB,_⟩:=(HM.out.below hb1).cells
   have HB1:=zh hb1
   clear hb1
   go_wp2_with fail
   refine (refused_any w1 mb n1 _ A n c l HB.out HI.out.bal (HX.out.below HB1.out) HZ.out).mono ?_
   rintro e w2 ⟨rfl,hb2⟩
   go_wp2
   exact HF.out _ (HB1.out.trans (hb2.mono HB1.out.size))
 ·rw[hb] at HK
  have hf:=Hr.out 8 w (by unfold Bk.would;rw[hb];rfl) (Below.refl _ _)
  have HF:=zh hf
  clear Hr hf hb HE
  go_enter Tryz.func344,Tryz.ntmps344
  go_wp2_with (go_at_call 342;(with_reducible refine HK.out.mono ?_);rintro e w' ⟨rfl,rfl⟩)
  exact HF.out
end
end
section
section
open Go.RowKit Go.Maps
theorem infoMv:(Tryz.prog.info? 264).map (λi=>(i.zero,i.size,i.bytes))=some (some (.agg #[.string ByteArray.empty,.string ByteArray.empty,.string ByteArray.empty,.int .i64 0]),4,56):=by kernel_rfl
theorem elemMv:ElemOk Tryz.prog 165 264 4 56:=ElemOk.of (z:=.agg #[.string ByteArray.empty,.string ByteArray.empty,.string ByteArray.empty,.int .i64 0]) Tryz.underlying165 infoMv rfl (by omega)
theorem infoEn:(Tryz.prog.info? 165).map (λi=>(i.zero,i.size,i.bytes))=some (some (.slice none 0 0),1,24):=by kernel_rfl
theorem elemEn:ElemOk Tryz.prog 162 165 1 24:=ElemOk.of (z:=.slice none 0 0) Tryz.underlying162 infoEn rfl (by omega)
theorem clonem_any(w:World)(A:Option Addr)(n c:Nat)(l:List Mv)(hX:SlE mvE 4 w A n l)(h1:1<=n)(hn:n<=1000) :
 Calls Tryz.prog 250 #[.slice A n c] w λe w'=>∃ A' c',e=.returned (.slice A' n c')/\w'.ownsRow w.heap.size 264 4 (.slice A' n c') n (l.flatMap mvE)/\Below w.heap.size w w':=by
 refine calls_cps ?_
 intro R hR
 have Hr:=zh hR.out
 have HX:=zh hX
 obtain⟨b,o,m,rfl,-⟩:=hX.mv_at (k:=0) (by omega)
 have HO:=zh (own_newAt w #[] 264 4 0 w.heap.size rfl (Nat.le_refl _) (by unfold maxLen;omega) rfl)
 have HS:=zh (hX.alloc (.cells #[] 264))
 have hnil:=λ(W:World)=>Lib.run_eql_slice_nil (P:=Tryz.prog) W 165 264 (some ⟨b,o,none⟩) n c 0 0 Tryz.underlying165
 clear hR hX
 go_enter Tryz.func250,Tryz.ntmps250
 go_wp2_with (at_builtin;refine wpList_app rfl (.tmp 5) (.tmp 6) _ rfl elemMv w.heap.size _ _ _ rfl HO.out _ _ _ _ rfl HS.out.2 (mv_one _) (by unfold maxLen;omega) (by omega) (by simp) ?_;intro A2 c2 w2 ho2 hg2 hl2;have HO2:=zh ho2;have HG2:=zh hg2;clear ho2 hg2 hl2)
 have h2:=HO2.out
 rw[Nat.zero_add] at h2
 exact Hr.out _ _ ⟨A2,c2,rfl,by simpa using h2,below_own (below_new w _) HO.out (Nat.le_refl _) (by simp) HG2.out⟩
theorem app_cases(d:Dk)(x:List UInt8):(d.app x).2=0\/(d.app x).2=9/\(d.app x).1=d\/(d.app x).2=11:=by
 unfold Dk.app
 split
 ·exact .inr (.inr rfl)
 ·split
  ·exact .inr (.inl ⟨rfl,rfl⟩)
  ·dsimp only
   split
   ·exact .inr (.inr rfl)
   ·exact .inl rfl
theorem sync_cases(d:Dk):d.sync.2=0\/d.sync.2=11:=by
 unfold Dk.sync
 split
 ·exact .inr rfl
 ·split
  ·exact .inr rfl
  ·exact .inl rfl
theorem would_bd(b:Bk)(l:List Mv):b.would l=0\/b.would l=1\/b.would l=5\/b.would l=8\/b.would l=10:=by
 unfold Bk.would
 split
 ·exact .inr (.inr (.inr (.inl rfl)))
 ·split
  ·rcases refW_cases (balE b.E) l (plcs l) 0 with h|h|h
   ·exact .inr (.inr (.inl h))
   ·exact .inr (.inr (.inr (.inr h)))
   ·exact .inl h
  ·exact .inr (.inl rfl)
structure Bd(W:World)(F:Nat->Prop)(a dk:Nat)(d:Dk)(b:Bk):Prop where
 disk:Dsk W F dk d
 book:Bok W F a dk b
theorem Bd.below{W w:World}{F:Nat->Prop}{a dk:Nat}{d:Dk}{b:Bk}(h:Bd W F a dk d b)(k:Below W.heap.size W w):Bd w F a dk d b:=⟨h.disk.below k,h.book.below k⟩
theorem mv_disk{W w:World}{F:Nat->Prop}{dk n:Nat}{d:Dk}{v:Value}{xs:List Value}(h:W.ownsRow 0 264 4 v n xs)(hd:Dsk W F dk d)(k:Kx (DkS W F dk) W w):w.ownsRow 0 264 4 v n xs:=
 own_heap h λg hg=>by
  obtain⟨C,hC⟩:=own_blk h hg
  refine k.block g (Array.getElem?_eq_some_iff.1 hC).1 ?_
  rintro (rfl|⟨_,C2,h2⟩)
  ·obtain⟨_,_,A,c,h2,_,_⟩:=hd
   rw[h2] at hC
   simp only[Option.some.injEq,Obj.cells.injEq] at hC
   exact absurd hC.2.1 (by decide)
  ·rw[h2] at hC
   simp only[Option.some.injEq,Obj.cells.injEq] at hC
   exact absurd hC.2.1 (by decide)
theorem kx_dks{W w:World}{F:Nat->Prop}{dk:Nat}{d:Dk}(hd:Dsk W F dk d)(k:Kx (DkS W F dk) W w):Kx F W w:=k.mono λj h=>by
 rcases h with rfl|h
 ·exact hd.2.1
 ·exact h.1
theorem own_mono{w:World}{B B' e sz n:Nat}{v:Value}{xs:List Value}(h:w.ownsRow B e sz v n xs)(hB:B'<=B):w.ownsRow B' e sz v n xs:=by
 refine⟨h.1,?_⟩
 rcases h.2 with h0|⟨g,c,cur,hv,h1,h2⟩
 ·exact .inl h0
 ·exact .inr ⟨g,c,cur,hv,Nat.le_trans hB h1,h2⟩
theorem hb5ent{W w:World}{F:Nat->Prop}{a dk:Nat}{b:Bk}{v:Value}(_:Bok W F a dk b)(h:Ent W F v b.E)(k:Below W.heap.size W w):Ent w F v b.E:=
 h.keep λj _ _ _ hC _=>k.block j (Array.getElem?_eq_some_iff.1 hC).1
theorem run_callF{P:Program}{a:Act}{w:World}{o:Oper}{f:FuncId}{fn:Func}{args:Array Operand}{ats:Array TypeId}(hop:o.op=.call { callee:=.value (.func f),args,argTypes:=ats })
 (hf : P.funcs[f]? = some fn) (hname : (fn.name == "runtime.NumGoroutine") = false) (hb : fn.body.isNone = false) : (execOp a.eval o).run P w = .ok (.enter f (args.map a.eval)) w := by
 have h1 : ¬ fn.name = "runtime.NumGoroutine" := by simpa using hname
 have h2:¬ fn.body=none:=by cases hx:fn.body<;>simp_all
 unfold execOp
 simp[hop,resolve,Deferred.ofValue,invoke,callFunc,hf,h1,h2,Act.eval]
theorem step_call{P:Program}{ops:Array Oper}{o:Oper}{a:Act}{w:World}{K:Act->World->Prop}{Q:Exit->Act->World->Prop}{E:Prop}(hg:o.guard=none)(f:FuncId)(x:Operand)(ts:Array TypeId)
 (hop : o.op = .call { callee := .value (.func f), args := #[x], argTypes := ts }) {fn : Func} (hf : P.funcs[f]? = some fn) (hname : (fn.name == "runtime.NumGoroutine") = false) (hb : fn.body.isNone = false)
 (v:Value) (hx:a.eval x=v) (R:Ending->World->Prop) (hc:Calls P f #[v] w R) (hret:∀ e w',R e w'->∃ r,e=.returned r)
 (hK:∀ r w',R (.returned r) w'->K (a.put o.dst r) w'):if Region.wanted o (yielded ops a.tmps)=true then Oper.wp P o a w K Q else E:=by
 have hw:Region.wanted o (yielded ops a.tmps)=true:=by simp[Region.wanted,hg]
 rw[if_pos hw]
 unfold Oper.wp
 rw[run_callF hop hf hname hb,Oper.upon_enter]
 have ha:(#[x].map a.eval)=#[v]:=by simp[hx]
 rw[ha]
 refine hc.mono λe w' hr=>?_
 obtain⟨r,rfl⟩:=hret e w' hr
 exact hK r w' hr
structure Sn(w4 w5:World)(F:Nat->Prop)(A4 A5:Option Addr)(c4 c5 n:Nat)(E:List (List Mv))(l:List Mv)(outer:List Value):Prop where
 bel:Below w4.heap.size w4 w5
 row:w5.ownsRow 0 264 4 (.slice A5 n c5) n (l.flatMap mvE)
 rowF:∀ g,(Value.slice A5 n c5).ownBlock=some g->F g
 out:w5.ownsRow 0 165 1 (.slice A4 E.length c4) E.length outer
 outF:∀ g,(Value.slice A4 E.length c4).ownBlock=some g->F g
 inn:∀ (i:Nat) (e:List Mv),E[i]?=some e->∃ Ai ci,outer[i]?=some (.slice Ai e.length ci)/\w5.ownsRow 0 264 4 (.slice Ai e.length ci) e.length (e.flatMap mvE)/\∀ g,(Value.slice Ai e.length ci).ownBlock=some g->F g
theorem ent_snoc{w5 w6:World}{o:Obj}{F:Nat->Prop}{A4 A5 A6:Option Addr}{c4 c5 c6 n:Nat}{E:List (List Mv)}{l:List Mv}{outer:List Value}(hu:Up w5 F)(o1:w5.ownsRow 0 165 1 (.slice A4 E.length c4) E.length outer)
 (o2:∀ g,(Value.slice A4 E.length c4).ownBlock=some g->F g) (o3:∀ (i:Nat) (e:List Mv),E[i]?=some e->∃ Ai ci,outer[i]?=some (.slice Ai e.length ci)/\w5.ownsRow 0 264 4 (.slice Ai e.length ci) e.length (e.flatMap mvE)/\∀ g,(Value.slice Ai e.length ci).ownBlock=some g->F g)
 (e0:w5.ownsRow 0 264 4 (.slice A5 n c5) n (l.flatMap mvE)) (eF:∀ g,(Value.slice A5 n c5).ownBlock=some g->F g) (hn:n=l.length)
 (ho6:w6.ownsRow 0 165 1 (.slice A6 (E.length+1) c6) (E.length+1) (outer++[.slice A5 n c5])) (hg6:(w5.alloc o).grownBy w6 (Value.slice A4 E.length c4).ownBlock)
 (hl6:(Value.slice A6 (E.length+1) c6).ownBlock=(Value.slice A4 E.length c4).ownBlock\/(Value.slice A6 (E.length+1) c6).ownBlock=some (w5.alloc o).heap.size):Ent w6 F (.slice A6 (E++[l]).length c6) (E++[l]):=by
 subst hn
 have hlen:(E++[l]).length=E.length+1:=by simp
 rw[hlen]
 have hol:outer.length=E.length:=by simpa using o1.1
 have hkeep:∀ {v:Value} {n:Nat} {xs:List Value},w5.ownsRow 0 264 4 v n xs->w6.ownsRow 0 264 4 v n xs:=λh=>(h.alloc o).kept hg6 (own_ne (h.alloc o) (o1.alloc o) (by decide))
 refine⟨outer++[.slice A5 l.length c5],by rw[hlen];exact ho6,λg hg=>?_,λi e he=>?_⟩
 ·rcases hl6 with h|h
  ·exact o2 g (h ▸ hg)
  ·rw[h] at hg
   cases hg
   exact hu _ (by simp)
 ·rcases Nat.lt_or_ge i E.length with h|h
  ·rw[List.getElem?_append_left h] at he
   obtain⟨Ai,ci,e1,e2,e3⟩:=o3 i e he
   exact⟨Ai,ci,by rw[List.getElem?_append_left (by omega)];exact e1,hkeep e2,e3⟩
  ·have hi:i=E.length:=by
    have:=(List.getElem?_eq_some_iff.1 he).1
    simp at this
    omega
   subst hi
   simp at he
   subst he
   exact⟨A5,c5,by rw[List.getElem?_append_right (by omega),hol];simp,hkeep e0,eF⟩
theorem BalZ.set{W:World}{m n:Nat}{f:Pl->Int}(h:BalZ W m n f){x:Addr}(hx:m≠x.block)(u:Value):BalZ (W.setCell x u) m n f:=h.keep (Below.heap_setCell W x u m hx)
theorem Ent.set{W:World}{F:Nat->Prop}{a i:Nat}{v u:Value}{E:List (List Mv)}{C:Array Value}(h:Ent W F v E)(ha:W.heap[a]?=some (.cells C 164 (0,0))):Ent (W.setCell ⟨a,i,none⟩ u) F v E:=
 h.keep λj _ C2 ty hC ht=>hset_ne λe=>by
  subst e
  rw[ha] at hC
  simp only[Option.some.injEq,Obj.cells.injEq] at hC
  rcases ht with rfl|rfl<;>exact absurd hC.2.1 (by decide)
theorem Bok.breaks{w:World}{F:Nat->Prop}{a dk:Nat}{b:Bk}(h:Bok w F a dk b):Bok (w.setCell ⟨a,3,none⟩ (.bool true)) F a dk ⟨b.E,true⟩:=by
 obtain⟨q0,A,c,mb,n,q1,q2,q3,q4,q5⟩:=h
 refine⟨q0,A,c,mb,n,?_,q2.set q1,q3,q4,q5.set (λe=>?_) _⟩
 ·rw[hset q1]
  rfl
 ·obtain⟨D,⟨⟨es,clock,hb,_⟩,_⟩,_⟩:=q5
  have e':mb=a:=e
  subst e'
  rw[q1] at hb
  simp at hb
theorem Dsk.book_set{w:World}{F:Nat->Prop}{a dk i:Nat}{d:Dk}{C:Array Value}{u:Value}(h:Dsk w F dk d)(ha:w.heap[a]?=some (.cells C 164 (0,0))):Dsk (w.setCell ⟨a,i,none⟩ u) F dk d:=
 h.kx_ty (kx_put w a i u) (λC2 h2 e=>by
  subst e
  rw[ha] at h2
  simp only[Option.some.injEq,Obj.cells.injEq] at h2
  exact absurd h2.2.1 (by decide)) (λj C2 h2 e=>by
  subst e
  rw[ha] at h2
  simp only[Option.some.injEq,Obj.cells.injEq] at h2
  exact absurd h2.2.1 (by decide))
theorem Dsk.breaks{w:World}{F:Nat->Prop}{a dk:Nat}{d:Dk}{b:Bk}{u:Value}(h:Dsk w F dk d)(hb:Bok w F a dk b):Dsk (w.setCell ⟨a,3,none⟩ u) F dk d:=by
 obtain⟨q0,A,c,mb,n,q1,_⟩:=hb
 exact h.book_set q1
def TyS(W:World)(F:Nat->Prop)(t:TypeId):Nat->Prop:=λj=>F j/\∃ C,W.heap[j]?=some (.cells C t (0,0))
theorem Dsk.tyS{W w:World}{F:Nat->Prop}{t:TypeId}{dk:Nat}{d:Dk}(h:Dsk W F dk d)(k:Kx (TyS W F t) W w)(h1:t≠158)(h2:t≠5):Dsk w F dk d:=
 h.kx_ty k (λC hC hs=>by
  obtain⟨_,C2,h3⟩:=hs
  rw[h3] at hC
  simp only[Option.some.injEq,Obj.cells.injEq] at hC
  exact h1 hC.2.1) (λj C hC hs=>by
  obtain⟨_,C2,h3⟩:=hs
  rw[h3] at hC
  simp only[Option.some.injEq,Obj.cells.injEq] at hC
  exact h2 hC.2.1)
theorem BalZ.map{W:World}{m n:Nat}{f:Pl->Int}(h:BalZ W m n f):∃ es clock,W.heap[m]?=some (.map es clock):=by
 obtain⟨D,⟨⟨es,clock,hb,_⟩,_⟩,_⟩:=h
 exact⟨es,clock,hb⟩
theorem BalZ.tyS{W w:World}{F:Nat->Prop}{t:TypeId}{m n:Nat}{f:Pl->Int}(h:BalZ W m n f)(k:Kx (TyS W F t) W w):BalZ w m n f:=
 h.keep (k.block m h.lt λhs=>by
  obtain⟨_,C2,h3⟩:=hs
  obtain⟨es,cl,hm⟩:=h.map
  rw[h3] at hm
  simp at hm)
theorem own_tyS{W w:World}{F:Nat->Prop}{t e:TypeId}{B sz n:Nat}{v:Value}{xs:List Value}(h:W.ownsRow B e sz v n xs)(k:Kx (TyS W F t) W w)(hne:t≠e):w.ownsRow B e sz v n xs:=
 own_heap h λg hg=>by
  obtain⟨C,hC⟩:=own_blk h hg
  refine k.block g (Array.getElem?_eq_some_iff.1 hC).1 ?_
  rintro⟨_,C2,h3⟩
  rw[h3] at hC
  simp only[Option.some.injEq,Obj.cells.injEq] at hC
  exact hne hC.2.1
theorem own_setH{W:World}{a i:Nat}{t e:TypeId}{B sz n:Nat}{v u:Value}{xs:List Value}{C:Array Value}(h:W.ownsRow B e sz v n xs)(ha:W.heap[a]?=some (.cells C t (0,0)))(hne:e≠t):(W.setCell ⟨a,i,none⟩ u).ownsRow B e sz v n xs:=
 own_heap h λg hg=>hset_ne (own_nea ha h hne g hg)
structure Pe(w4 W7:World)(F:Nat->Prop)(a dk mb n4:Nat)(A:Option Addr)(n c:Nat)(d:Dk)(b:Bk)(l:List Mv):Prop where
 bal:BalZ W7 mb n4 (balE b.E)
 row:W7.ownsRow 0 264 4 (.slice A n c) n (l.flatMap mvE)
 last:∀ {w8:World},BalZ w8 mb (n4+2*n) (λq=>balE b.E q+enA l q)->Kx (λj=>j=mb) W7 w8->n<=32->Bd w8 F a dk d ⟨b.E++[l],b.br⟩/\Kx F w4 w8
theorem post_end{w4 w5 w6:World}{F:Nat->Prop}{a dk mb n4 n:Nat}{A A4 A5 A6:Option Addr}{c c4 c5 c6:Nat}{d:Dk}{b:Bk}{l:List Mv}{outer:List Value}
 (hB:Bok w4 F a dk b) (hD:Dsk w4 F dk d) (hX:w4.ownsRow 0 264 4 (.slice A n c) n (l.flatMap mvE)) (hu:Up w4 F) (_:w4.cell? ⟨a,1,none⟩=some (.slice A4 b.E.length c4)) (hE:Ent w4 F (.slice A4 b.E.length c4) b.E) (hn4:n4<=64*b.E.length) (hbal:BalZ w4 mb n4 (balE b.E)) (hF:F mb)
 (_:w4.heap[a]?=some (.cells (bkC dk mb (.slice A4 b.E.length c4) b) 164 (0,0))) (hsn:Sn w4 w5 F A4 A5 c4 c5 n b.E l outer) (hl:n=l.length) (ho6:w6.ownsRow 0 165 1 (.slice A6 (b.E.length+1) c6) (b.E.length+1) (outer++[.slice A5 n c5]))
 (hg6:(w5.alloc (.cells #[.slice A5 n c5] 165)).grownBy w6 (Value.slice A4 b.E.length c4).ownBlock) (hl6:(Value.slice A6 (b.E.length+1) c6).ownBlock=(Value.slice A4 b.E.length c4).ownBlock\/(Value.slice A6 (b.E.length+1) c6).ownBlock=some (w5.alloc (.cells #[.slice A5 n c5] 165)).heap.size)
 (hk6:w6.heap[a]?=some (.cells #[.pointer (some ⟨dk,0,none⟩),.slice A4 b.E.length c4,.map (some mb),.bool b.br] 164 (0,0))):Pe w4 (w6.setCell ⟨a,1,none⟩ (.slice A6 (b.E.length+1) c6)) F a dk mb n4 A n c d b l:=by
 obtain⟨o4,o41,o42,_⟩:=hE
 have hk:Kx (TyS w4 F 165) w4 w6:=((kx_of_below hsn.bel).below (below_new w5 _)).grown hg6 λj hj=>.inl ⟨o42 j hj,own_blk o41 hj⟩
 have hEnt:=ent_snoc (hu.below hsn.bel) hsn.out hsn.outF hsn.inn hsn.row hsn.rowF hl ho6 hg6 hl6
 have hbal6:=hbal.tyS hk
 have hne:mb≠a:=λe=>by
  obtain⟨es,cl,hm⟩:=hbal6.map
  rw[e,hk6] at hm
  simp at hm
 have hlen:(b.E++[l]).length=b.E.length+1:=by simp
 refine⟨hbal6.set hne _,own_setH (own_tyS hX hk (by decide)) hk6 (by decide),fun {w8} h8 k8 hn=>⟨⟨?_,?_⟩,?_⟩⟩
 ·have h7:Dsk (w6.setCell ⟨a,1,none⟩ (.slice A6 (b.E.length+1) c6)) F dk d:=(hD.tyS hk (by decide) (by decide)).book_set hk6
  refine h7.kx_ty k8 (λC hC e=>?_) (λj C hC e=>?_)
  ·obtain⟨es,cl,hm⟩:=(hbal6.set hne (.slice A6 (b.E.length+1) c6) (x:=⟨a,1,none⟩)).map
   rw[← e,hC] at hm
   simp at hm
  ·obtain⟨es,cl,hm⟩:=(hbal6.set hne (.slice A6 (b.E.length+1) c6) (x:=⟨a,1,none⟩)).map
   rw[← e,hC] at hm
   simp at hm
 ·have ha7:=hset (i:=1) (v:=.slice A6 (b.E.length+1) c6) hk6
  have ha8:=(k8.block a (Array.getElem?_eq_some_iff.1 ha7).1 (λe=>hne e.symm)).trans ha7
  refine⟨hB.1,A6,c6,mb,n4+2*n,?_,?_,hF,by rw[hlen];omega,?_⟩
  ·rw[ha8]
   show _=some (Obj.cells (bkC dk mb (.slice A6 (b.E++[l]).length c6) ⟨b.E++[l],b.br⟩) _ _)
   rw[hlen]
   rfl
  ·refine (hEnt.set hk6).keep λj hj C ty hC _=>k8.block j (Array.getElem?_eq_some_iff.1 hC).1 λe=>?_
   obtain⟨es,cl,hm⟩:=(hbal6.set hne (.slice A6 (b.E.length+1) c6) (x:=⟨a,1,none⟩)).map
   rw[← e,hC] at hm
   simp at hm
  ·have e:balE (b.E++[l])=λq=>balE b.E q+enA l q:=funext λq=>balE_snoc b.E l q
   show BalZ w8 mb (n4+2*n) (balE (b.E++[l]))
   rw[e]
   exact h8
 ·exact ((hk.mono (λj h=>h.1)).trans (kx_put w6 a 1 _) (λj _ e=>e ▸ hB.1)).trans k8 (λj _ e=>e ▸ hF)
theorem post_bad(w:World)(F:Nat->Prop)(a dk:Nat)(d:Dk)(b:Bk)(A:Option Addr)(n c:Nat)(l:List Mv)(h:Bd w F a dk d b)(hi:Inv d b)(hX:w.ownsRow 0 264 4 (.slice A n c) n (l.flatMap mvE))(hl:n=l.length)(hs:mvS l)(hn:n<=9223372036854775807)(hw:b.would l≠0) :
 Calls Tryz.prog 333 #[.pointer (some ⟨a,0,none⟩),.slice A n c] w λe w'=>e=.returned (.int .i64 (b.would l))/\Below w.heap.size w w':=by
 refine calls_cps ?_
 intro R hR
 have HW:=zh (would_any w F a dk d b A n c l h.book hi (SlE.of_own hX hl) hs hn)
 have Hr:=zh (λw' hb=>hR.out (.returned (.int .i64 (b.would l))) w' ⟨rfl,hb⟩)
 obtain⟨v,hv⟩:∃ v,b.would l=v:=⟨_,rfl⟩
 rw[hv] at HW Hr hw
 have e1:(v != 0)=true:=by rw[bne_iff_ne];exact hw
 clear hR hX h hw hv hl hi
 go_enter Tryz.func333,Tryz.ntmps333
 go_wp2_with fail
 refine HW.out.mono ?_
 rintro e w' ⟨rfl,hb⟩
 have HB:=zh hb
 clear hb
 go_wp2
 exact Hr.out _ HB.out
theorem post_ok(w:World)(F:Nat->Prop)(a dk:Nat)(d:Dk)(b:Bk)(A:Option Addr)(n c:Nat)(l:List Mv)(h:Bd w F a dk d b)(hi:Inv d b)(hu:Up w F)(hX:w.ownsRow 0 264 4 (.slice A n c) n (l.flatMap mvE))(hl:n=l.length)(hw:b.would l=0) :
 Calls Tryz.prog 333 #[.pointer (some ⟨a,0,none⟩),.slice A n c] w λe w'=>e=.returned (.int .i64 (postB d b l).2.2)/\Bd w' F a dk (postB d b l).1 (postB d b l).2.1/\Kx F w w':=by
 refine calls_cps ?_
 intro R hR
 have hz:enOk l=true:=by
  unfold Bk.would at hw
  split at hw
  ·cases hw
  ·split at hw
   ·assumption
   ·cases hw
 have hZ:=mvZ_of hz
 have hs:mvS l:=λm hm=>by have:=hZ.2 m hm;omega
 have hn:n<=32:=by rw[hl];exact hZ.1
 have hn1:1<=n:=by
  unfold enOk at hz
  simp only[Bool.and_eq_true,decide_eq_true_eq] at hz
  omega
 have HW:=zh (would_any w F a dk d b A n c l h.book hi (SlE.of_own hX hl) hs (by omega))
 rw[hw] at HW
 have hpost:postB d b l=if (d.app (encE l)).2=9 then (d,b,9) else
  if (d.app (encE l)).2≠0 then ((d.app (encE l)).1,⟨b.E,true⟩,(d.app (encE l)).2) else
  if ((d.app (encE l)).1.sync).2≠0 then ((d.app (encE l)).1.sync.1,⟨b.E,true⟩,(d.app (encE l)).1.sync.2) else
  ((d.app (encE l)).1.sync.1,⟨b.E++[l],b.br⟩,0):=by
  unfold postB
  rw[if_neg (by rw[hw];decide)]
 have HH:=zh h
 have HX:=zh hX
 have HL:=zh hl
 have HU:=zh hu
 have HZ:=zh hZ
 have HI:=zh hi
 have HP:=zh hpost
 clear h hX hl hu hZ hi hz hw hs hpost
 go_enter Tryz.func333,Tryz.ntmps333
 go_wp2_with (go_at_call 344;(with_reducible refine HW.out.mono ?_);rintro e w1 ⟨rfl,hb1⟩;have HB1:=zh hb1;clear hb1)
 have hh:=HH.out.below HB1.out
 obtain⟨A0,c0,mb,n0,d0,d1,d2,d3,_,_,HN,HBal,HFm,HHp⟩:=hh.book.cells
 have HX1:=zh (ownsRow_below HX.out HB1.out)
 have HE:Hid (Calls Tryz.prog 371 #[.slice A n c] w1.drew λe w'=>∃ A' m c',e=.returned (.slice A' m c')/\SlE byE 1 w' A' m (encE l)/\m<=1400/\Below w1.heap.size w1 w'):=
  zh ((encode_any A n c l w1.drew (SlE.of_own HX1.out HL.out) HZ.out).mono λe w' ⟨A',m,c',e1,e2,e3,hb⟩=>⟨A',m,c',e1,e2,e3,⟨hb.os,hb.tape,hb.output,hb.size,hb.block⟩⟩)
 have HH1:=zh hh
 clear hh
 have hx1:w1.drew.cell? ⟨a,0,none⟩=some (.pointer (some ⟨dk,0,none⟩)):=d0
 go_upto_region 4 with fail
 rcases app_cases d (encE l) with ha|⟨ha,ha'⟩|ha
 ·have HA:=zh ha
  clear ha
  go_region_held3 (λw'=>w'.cell? ⟨a,0,none⟩=some (.pointer (some ⟨dk,0,none⟩)))
   (first
   |exact hx1
   |exact hx2
   |exact hx3
   |go_keep)
   (first
   |(go_at_call 371;(with_reducible refine HE.out.mono ?_);rintro e w2 ⟨A2,m2,c2,rfl,hxx2,hm2,hb2⟩;have HBw2:=zh hb2;have HX2:=zh hxx2;have HM2:=zh (show m2<=1000000 by omega);have HU2:=zh ((HU.out.below HB1.out).below hb2);have HH2:=zh (HH1.out.below hb2);obtain⟨_,_,_,_,hx2,-⟩:=(HH1.out.below hb2).book.cells;clear hxx2 hm2 hb2)
   |(go_at_call 370;(with_reducible refine (dapp_any w2 F dk d HH2.out.disk HU2.out A2 m2 c2 (encE l) HX2.out HM2.out).mono ?_);rw[HA.out];rintro e w3 ⟨rfl,hd3,hk3⟩;obtain⟨_,_,_,_,hx3,-⟩:=(HH2.out.book.disk HH2.out.disk hk3).cells;have HD3:=zh hd3;have HK3:=zh hk3;clear hd3 hk3))
  have HB3:=zh (HH2.out.book.disk HH2.out.disk HK3.out)
  have HX3:=zh (mv_disk (ownsRow_below HX1.out HBw2.out) HH2.out.disk HK3.out)
  have HKF:=zh (((kx_of_below HB1.out).trans (kx_of_below (S:=F) HBw2.out) (λ_ _ h=>h)).trans (kx_dks HH2.out.disk HK3.out) (λ_ _ h=>h))
  clear HE
  rcases sync_cases (d.app (encE l)).1 with hs|hs
  ·have HS:=zh hs
   have HY:=zh (dsync_any w3 F dk _ HD3.out)
   clear hs
   go_wp2_with (go_at_call 59;(with_reducible refine HY.out.mono ?_);rw[HS.out];rintro e w4 ⟨rfl,hd4,hk4⟩;have HD4:=zh hd4;have HK4:=zh (hk4.mono (T:=DkS w3 F dk) λj e=>.inl e);clear hd4 hk4)
   have hb4:=HB3.out.disk HD3.out HK4.out
   have HB4:=zh hb4
   have HX4:=zh (mv_disk HX3.out HD3.out HK4.out)
   have HKF4:=zh (HKF.out.trans (kx_dks HD3.out HK4.out) (λ_ _ h=>h))
   have HU4:=zh (HU.out.kx HKF4.out)
   obtain⟨A4,c4,mb4,n4,g0,g1,g2,g3,gf,HE4,HN4,HBal4,HF4,HHp4⟩:=hb4.cells
   have halt:=hb4.lt
   have HCl:Hid (Calls Tryz.prog 250 #[.slice A n c] w4.drew λe w'=>∃ A' c' outer,e=.returned (.slice A' n c')/\w'.cell? ⟨a,1,none⟩=some (.slice A4 b.E.length c4)/\(w'.alloc (.cells #[.slice A' n c'] 165)).cell? ⟨a,1,none⟩=some (.slice A4 b.E.length c4)/\
    Hid (Sn w4 w' F A4 A' c4 c' n b.E l outer)/\Hid ((w'.alloc (.cells #[.slice A' n c'] 165)).ownsRow 0 165 1 (.slice A4 b.E.length c4) b.E.length outer)/\Hid (Sl (w'.alloc (.cells #[.slice A' n c'] 165)) 1 (some ⟨w'.heap.size,0,none⟩) 1 [.slice A' n c'])/\Hid ((w'.alloc (.cells #[.slice A' n c'] 165)).heap[a]?=some (.cells #[.pointer (some ⟨dk,0,none⟩),.slice A4 b.E.length c4,.map (some mb4),.bool b.br] 164 (0,0)))):=
    zh ((clonem_any w4.drew A n c l (SlE.of_own HX4.out HL.out) hn1 (by omega)).mono λe w' ⟨A',c',e1,e2,hb⟩=>by
     have hb5:Below w4.heap.size w4 w':=⟨hb.os,hb.tape,hb.output,hb.size,hb.block⟩
     obtain⟨outer,o1,o2,o3⟩:=hb5ent HB4.out HE4.out hb5
     have q1:=(hb5.cell (p:=⟨a,1,none⟩) halt).trans g1
     refine⟨A',c',outer,e1,q1,(World.cell?_alloc_lt w' _ ⟨a,1,none⟩ (Nat.lt_of_lt_of_le halt hb5.size)).trans q1,zh ⟨hb5,own_mono e2 (Nat.zero_le _),λg hg=>HU4.out g (e2.lt g hg).1,o1,o2,o3⟩,zh (o1.alloc _),zh (Sl.new w' _ _ 1 1 rfl),zh ((heap_alloc_old w' _ (Nat.lt_of_lt_of_le halt hb5.size)).trans ((hb5.block a halt).trans HHp4.out))⟩)
   have HRt:=zh (show ∀ (e:Ending) (w':World),(∃ A' c' outer,e=.returned (.slice A' n c')/\w'.cell? ⟨a,1,none⟩=some (.slice A4 b.E.length c4)/\(w'.alloc (.cells #[.slice A' n c'] 165)).cell? ⟨a,1,none⟩=some (.slice A4 b.E.length c4)/\
    Hid (Sn w4 w' F A4 A' c4 c' n b.E l outer)/\Hid ((w'.alloc (.cells #[.slice A' n c'] 165)).ownsRow 0 165 1 (.slice A4 b.E.length c4) b.E.length outer)/\Hid (Sl (w'.alloc (.cells #[.slice A' n c'] 165)) 1 (some ⟨w'.heap.size,0,none⟩) 1 [.slice A' n c'])/\Hid ((w'.alloc (.cells #[.slice A' n c'] 165)).heap[a]?=some (.cells #[.pointer (some ⟨dk,0,none⟩),.slice A4 b.E.length c4,.map (some mb4),.bool b.br] 164 (0,0))))->∃ r,e=.returned r from λe w' ⟨A',c',outer,he,_⟩=>⟨_,he⟩)
   have hN:=HI.out.few
   have p1:w4.drew.cell? ⟨a,1,none⟩=some (.slice A4 b.E.length c4):=g1
   clear hb4 HY HW
   go_upto_region 12 with fail
   go_region_law (first
    |(refine step_call rfl 250 (.tmp 41) _ rfl Tryz.func250 (by kernel_rfl) (by kernel_rfl) (.slice A n c) ?_ _ HCl.out HRt.out ?_;(· (simp[Act.eval,Act.put]));rintro r w5 ⟨A5,c5,outer,her,q1,r1,HSn,HO1,HSl,HW5⟩;cases her)
    |(refine step_app rfl (.tmp 40) (.tmp 43) 162 rfl elemEn 0 (.slice A4 b.E.length c4) b.E.length outer ?_ HO1.out (some ⟨w5.heap.size,0,none⟩) 1 1 [.slice A5 n c5] ?_ HSl.out (by simp[Value.oneCell']) (by unfold maxLen;omega) (by omega) (Nat.zero_le _) ?_;(· (simp[Act.eval]));(· (simp[Act.eval]));intro A6 c6 w6 ho6 hg6 hl6;have hk6:=kept_box HW5.out HO1.out (by decide) hg6;obtain⟨t0,s1,t2,t3,tf⟩:=cells4 hk6;have tf1:=tf 1;have HK6:=zh hk6;clear tf hk6;have HO6:=zh ho6;have HG6:=zh hg6;have HL6:=zh hl6;clear ho6 hg6 hl6)
    |fail)
   all_goals
    have HF6:=zh (post_end HB4.out HD4.out HX4.out HU4.out g1 HE4.out HN4.out HBal4.out HF4.out HHp4.out HSn.out HL.out HO6.out HG6.out HL6.out HK6.out)
    clear p1 q1 r1
    go_wp2_with fail
    refine (do_any _ mb4 n4 (balE b.E) A n c l HF6.out.bal (by have:=HN4.out;omega) HI.out.bal (SlE.of_own HF6.out.row HL.out) HZ.out).mono ?_
    rintro e w8 ⟨rfl,hb8,hk8⟩
    have HE8:=zh (HF6.out.last hb8 hk8 hn)
    clear hb8 hk8
    go_wp2
    have hp:=HP.out
    rw[if_neg (by rw[HA.out];decide),if_neg (by rw[HA.out];decide),if_neg (by rw[HS.out];decide)] at hp
    refine hR.out _ _ ?_
    rw[hp]
    exact⟨rfl,HE8.out.1,HKF4.out.trans HE8.out.2 (λ_ _ h=>h)⟩
  ·have HS:=zh hs
   have HY:=zh (dsync_any w3 F dk _ HD3.out)
   clear hs
   go_wp2_with (go_at_call 59;(with_reducible refine HY.out.mono ?_);rw[HS.out];rintro e w4 ⟨rfl,hd4,hk4⟩;have HD4:=zh hd4;have HK4:=zh (hk4.mono (T:=DkS w3 F dk) λj e=>.inl e);obtain⟨_,_,_,_,g0,g1,g2,g3,gf,-⟩:=(HB3.out.disk HD3.out HK4.out).cells;have gf':=gf.out 3;clear hd4 hk4 gf)
   have hp:=HP.out
   rw[if_neg (by rw[HA.out];decide),if_neg (by rw[HA.out];decide),if_pos (by rw[HS.out];decide),HS.out] at hp
   refine hR.out _ _ ?_
   rw[hp]
   exact⟨rfl,⟨Dsk.breaks HD4.out (HB3.out.disk HD3.out HK4.out),(HB3.out.disk HD3.out HK4.out).breaks⟩,(HKF.out.trans (kx_dks HD3.out HK4.out) (λ_ _ h=>h)).trans (kx_put _ a 3 _) (λj _ e=>e ▸ HB3.out.1)⟩
 ·have HA:=zh ha
  have HA':=zh ha'
  clear ha ha'
  go_region_held3 (λw'=>w'.cell? ⟨a,0,none⟩=some (.pointer (some ⟨dk,0,none⟩)))
   (first
   |exact hx1
   |exact hx2
   |exact hx3
   |go_keep)
   (first
   |(go_at_call 371;(with_reducible refine HE.out.mono ?_);rintro e w2 ⟨A2,m2,c2,rfl,hxx2,hm2,hb2⟩;have HBw2:=zh hb2;have HX2:=zh hxx2;have HM2:=zh (show m2<=1000000 by omega);have HU2:=zh ((HU.out.below HB1.out).below hb2);have HH2:=zh (HH1.out.below hb2);obtain⟨_,_,_,_,hx2,-⟩:=(HH1.out.below hb2).book.cells;clear hxx2 hm2 hb2)
   |(go_at_call 370;(with_reducible refine (dapp_any w2 F dk d HH2.out.disk HU2.out A2 m2 c2 (encE l) HX2.out HM2.out).mono ?_);rw[HA.out];rintro e w3 ⟨rfl,hd3,hk3⟩;obtain⟨_,_,_,_,hx3,-⟩:=(HH2.out.book.disk HH2.out.disk hk3).cells;have HD3:=zh hd3;have HK3:=zh hk3;clear hd3 hk3))
  have hp:=HP.out
  rw[if_pos HA.out] at hp
  go_wp2
  refine hR.out _ _ ?_
  rw[hp]
  have hd:=HD3.out
  rw[HA'.out] at hd
  exact⟨rfl,⟨hd,HH2.out.book.disk HH2.out.disk HK3.out⟩,((kx_of_below HB1.out).trans (kx_of_below (S:=F) HBw2.out) (λ_ _ h=>h)).trans (kx_dks HH2.out.disk HK3.out) (λ_ _ h=>h)⟩
 ·have HA:=zh ha
  clear ha
  go_region_held3 (λw'=>w'.cell? ⟨a,0,none⟩=some (.pointer (some ⟨dk,0,none⟩)))
   (first
   |exact hx1
   |exact hx2
   |exact hx3
   |go_keep)
   (first
   |(go_at_call 371;(with_reducible refine HE.out.mono ?_);rintro e w2 ⟨A2,m2,c2,rfl,hxx2,hm2,hb2⟩;have HBw2:=zh hb2;have HX2:=zh hxx2;have HM2:=zh (show m2<=1000000 by omega);have HU2:=zh ((HU.out.below HB1.out).below hb2);have HH2:=zh (HH1.out.below hb2);obtain⟨_,_,_,_,hx2,-⟩:=(HH1.out.below hb2).book.cells;clear hxx2 hm2 hb2)
   |(go_at_call 370;(with_reducible refine (dapp_any w2 F dk d HH2.out.disk HU2.out A2 m2 c2 (encE l) HX2.out HM2.out).mono ?_);rw[HA.out];rintro e w3 ⟨rfl,hd3,hk3⟩;obtain⟨_,_,_,_,hx3,-⟩:=(HH2.out.book.disk HH2.out.disk hk3).cells;have HD3:=zh hd3;have HK3:=zh hk3;clear hd3 hk3))
  have HB3:=zh (HH2.out.book.disk HH2.out.disk HK3.out)
  obtain⟨_,_,_,_,g0,g1,g2,g3,gf,-⟩:=HB3.out.cells
  have gf':=gf.out 3
  have hp:=zh HP.out
  clear gf
  go_wp2
  have hp:=HP.out
  rw[if_neg (by rw[HA.out];decide),if_pos (by rw[HA.out];decide),HA.out] at hp
  refine hR.out _ _ ?_
  rw[hp]
  exact⟨rfl,⟨Dsk.breaks HD3.out HB3.out,HB3.out.breaks⟩,(((kx_of_below HB1.out).trans (kx_of_below (S:=F) HBw2.out) (λ_ _ h=>h)).trans (kx_dks HH2.out.disk HK3.out) (λ_ _ h=>h)).trans (kx_put _ a 3 _) (λj _ e=>e ▸ HB3.out.1)⟩
end
end
end Go.Proofs.YtjibohkeapdalaaGreatDoor
