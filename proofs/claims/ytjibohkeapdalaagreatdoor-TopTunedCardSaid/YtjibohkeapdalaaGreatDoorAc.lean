/-
  The book's invariants behind Post; Post at any moves; Reverse; no condition but that the cells hold a book on its disk. slices.Backward of moves, and a loop over it whose body never leaves early; condition: what each round keeps. A loop over moves from the last one on whose body never leaves early: what holds between the rounds holds behind it; condition: what each round keeps. Book.Reverse; conditions: the cells hold a book on its disk that is not broken, and there is such an entry.
-/
import Derived.Test.YtjibohkeapdalaaGreatDoorAb
import Derived.RangeFuncNested
import Derived.RangeFuncBound
import Derived.RangeFuncCalls
import Derived.RangeFuncLeaves
import Derived.Shelf.Abstract
import Derived.Shelf.RegionOpen
import Derived.OwnWalkIn
import Derived.TacticsInMore
import Derived.LoopNIn
import Derived.LoopIn
import Derived.WalkMore
import Derived.Scope
namespace Go.Proofs.YtjibohkeapdalaaGreatDoor
section
section
open Go.RowKit Go.Maps
theorem act_B(d:Dk):d.act.1.B=d.B/\d.act.1.safe=d.safe:=by
 unfold Dk.act
 split<;>exact⟨rfl,rfl⟩
theorem act_left(d:Dk)(h:d.left<1000000000000):d.act.1.left<1000000000000:=by
 unfold Dk.act
 split
 ·exact h
 ·show d.left-1<_
  omega
theorem act_down(d:Dk)(h:d.down=false):d.act.1.down=d.act.2:=by
 unfold Dk.act
 split
 ·exact h
 ·rfl
theorem would_ok{b:Bk}{l:List Mv}(h:b.would l=0):b.br=false/\enOk l=true/\refE (balE b.E) l=0:=by
 unfold Bk.would at h
 split at h
 ·cases h
 ·rename_i hb
  split at h
  ·rename_i he
   exact⟨by simpa using hb,he,h⟩
  ·cases h
theorem Inv.post{d:Dk}{b:Bk}(h:Inv d b)(l:List Mv):Inv (postB d b l).1 (postB d b l).2.1:=by
 by_cases hw:b.would l≠0
 ·have e:postB d b l=(d,b,b.would l):=by unfold postB;rw[if_pos hw]
  rw[e]
  exact h
 ·obtain⟨hbr,hen,href⟩:=would_ok (Classical.not_not.1 hw)
  obtain⟨t,ht,h1,_⟩:=h.fit
  obtain⟨rfl,hdn,hsf⟩:=h1 hbr
  rw[List.append_nil] at ht
  have hj:Jour (b.E++[l]):=h.jour.snoc λp=>(refE_0 λq=>h.jour.now q).1 href p
  have hall:∀ e∈b.E++[l],enOk e=true:=λe he=>by
   rcases List.mem_append.1 he with he|he
   ·exact h.ent e he
   ·rw[List.mem_singleton.1 he];exact hen
  have hfl:(b.E++[l]).flatMap encE=b.E.flatMap encE++encE l:=by rw[List.flatMap_append,List.flatMap_cons,List.flatMap_nil,List.append_nil]
  by_cases hr:65536-d.B.length<(encE l).length
  ·have happ:d.app (encE l)=(d,9):=by
    unfold Dk.app
    rw[hdn,if_neg (by simp),if_pos hr]
   have e:postB d b l=(d,b,9):=by
    unfold postB
    rw[if_neg hw,happ]
    simp
   rw[e]
   exact h
  ·obtain⟨D,hD⟩:∃ D:Dk,D={ d with B:=d.B++encE l }:=⟨_,rfl⟩
   have happ:d.app (encE l)=(D.act.1,if D.act.2 then 11 else 0):=by
    unfold Dk.app
    rw[hdn,if_neg (by simp),if_neg hr,hD,hdn]
   have hroom:d.B.length+(encE l).length<=65536:=by have:=h.ok.1;omega
   have hDB:D.B=d.B++encE l:=by rw[hD]
   have hDs:D.safe=d.safe:=by rw[hD]
   have hDd:D.down=false:=by rw[hD];exact hdn
   have hDl:D.left<1000000000000:=by rw[hD];exact h.ok.2.2
   obtain⟨a1,a2⟩:=act_B D
   have a3:=act_left D hDl
   have a4:=act_down D hDd
   have hs2:=h.ok.2.1
   cases hact:D.act.2
   ·rw[hact] at a4 happ
    obtain⟨s1,s2⟩:=act_B D.act.1
    have s3:=act_left D.act.1 a3
    have s4:=act_down D.act.1 a4
    cases hs:D.act.1.act.2
    ·rw[hs] at s4
     have e:postB d b l=({ D.act.1.act.1 with safe:=D.act.1.act.1.B.length },⟨b.E++[l],b.br⟩,0):=by
      unfold postB
      rw[if_neg hw,happ]
      unfold Dk.sync
      rw[a4,hs]
      simp
     rw[e]
     refine⟨⟨?_,Nat.le_refl _,s3⟩,hj,hall,[],?_,λ_=>⟨rfl,s4,rfl⟩,λhb=>?_⟩
     ·show D.act.1.act.1.B.length<=65536
      rw[s1,a1,hDB,List.length_append]
      exact hroom
     ·show D.act.1.act.1.B=_
      rw[s1,a1,hDB,List.append_nil,ht,hfl]
     ·have hb':b.br=true:=hb
      rw[hbr] at hb'
      cases hb'
    ·rw[hs] at s4
     have e:postB d b l=(D.act.1.act.1,⟨b.E,true⟩,11):=by
      unfold postB
      rw[if_neg hw,happ]
      unfold Dk.sync
      rw[a4,hs]
      simp
     rw[e]
     refine⟨⟨?_,?_,s3⟩,h.jour,h.ent,encE l,?_,λhb=>?_,λ_=>⟨s4,?_,l,rfl,hen,href⟩⟩
     ·show D.act.1.act.1.B.length<=65536
      rw[s1,a1,hDB,List.length_append]
      exact hroom
     ·show D.act.1.act.1.safe<=D.act.1.act.1.B.length
      rw[s1,s2,a1,a2,hDB,hDs,List.length_append]
      omega
     ·show D.act.1.act.1.B=_
      rw[s1,a1,hDB,ht]
     ·have hb':true=false:=hb
      cases hb'
     ·show D.act.1.act.1.safe=_
      rw[s2,a2,hDs,hsf,ht]
   ·rw[hact] at a4 happ
    have e:postB d b l=(D.act.1,⟨b.E,true⟩,11):=by
     unfold postB
     rw[if_neg hw,happ]
     simp
    rw[e]
    refine⟨⟨?_,?_,a3⟩,h.jour,h.ent,encE l,?_,λhb=>?_,λ_=>⟨a4,?_,l,rfl,hen,href⟩⟩
    ·show D.act.1.B.length<=65536
     rw[a1,hDB,List.length_append]
     exact hroom
    ·show D.act.1.safe<=D.act.1.B.length
     rw[a1,a2,hDB,hDs,List.length_append]
     omega
    ·show D.act.1.B=_
     rw[a1,hDB,ht]
    ·have hb':true=false:=hb
     cases hb'
    ·show D.act.1.safe=_
     rw[a2,hDs,hsf,ht]
theorem post_any(w:World)(F:Nat->Prop)(a dk:Nat)(d:Dk)(b:Bk)(A:Option Addr)(n c:Nat)(l:List Mv)(h:Bd w F a dk d b)(hi:Inv d b)(hu:Up w F)(hX:w.ownsRow 0 264 4 (.slice A n c) n (l.flatMap mvE))(hl:n=l.length)(hs:mvS l)(hn:n<=9223372036854775807) :
 Calls Tryz.prog 333 #[.pointer (some ⟨a,0,none⟩),.slice A n c] w λe w'=>e=.returned (.int .i64 (postB d b l).2.2)/\Bd w' F a dk (postB d b l).1 (postB d b l).2.1/\Kx F w w':=by
 by_cases hw:b.would l=0
 ·exact post_ok w F a dk d b A n c l h hi hu hX hl hw
 ·refine (post_bad w F a dk d b A n c l h hi hX hl hs hn hw).mono ?_
  rintro e w' ⟨rfl,hb⟩
  unfold postB
  rw[if_pos hw]
  exact⟨rfl,h.below hb,kx_of_below hb⟩
end
end
section
open Go.RowKit Go.Shelf
attribute [local go_sem] Oper.semAt_some
end
section
section
open Go.RowKit Go.Shelf Go.Maps
attribute [local go_sem] Oper.semAt_some
def Of(W:World)(F G:Nat->Prop):Prop:=∀ j,F j->((∃ C ty,W.heap[j]?=some (.cells C ty (0,0)))\/∃ es cl,W.heap[j]?=some (.map es cl))->G j
theorem Dsk.sub{W:World}{F G:Nat->Prop}{a:Nat}{d:Dk}(h:Dsk W F a d)(k:Of W F G):Dsk W G a d:=by
 obtain⟨h1,h2,A,c,h3,h4,h5⟩:=h
 refine⟨h1,k a h2 (.inl ⟨_,_,h3⟩),A,c,h3,h4,λg hg=>k g (h5 g hg) (.inl ?_)⟩
 obtain⟨C,hC⟩:=own_blk h4 hg
 exact⟨C,_,hC⟩
theorem Ent.sub{W:World}{F G:Nat->Prop}{v:Value}{E:List (List Mv)}(h:Ent W F v E)(k:Of W F G):Ent W G v E:=by
 obtain⟨o,h1,h2,h3⟩:=h
 refine⟨o,h1,λg hg=>?_,λi e he=>?_⟩
 ·obtain⟨C,hC⟩:=own_blk h1 hg
  exact k g (h2 g hg) (.inl ⟨C,_,hC⟩)
 ·obtain⟨Ai,ci,e1,e2,e3⟩:=h3 i e he
  refine⟨Ai,ci,e1,e2,λg hg=>?_⟩
  obtain⟨C,hC⟩:=own_blk e2 hg
  exact k g (e3 g hg) (.inl ⟨C,_,hC⟩)
theorem Bd.sub{W:World}{F G:Nat->Prop}{a dk:Nat}{d:Dk}{b:Bk}(h:Bd W F a dk d b)(k:Of W F G):Bd W G a dk d b:=by
 refine⟨h.disk.sub k,?_⟩
 obtain⟨q0,A,c,mb,n,q1,q2,q3,q4,q5⟩:=h.book
 exact⟨k a q0 (.inl ⟨_,_,q1⟩),A,c,mb,n,q1,q2.sub k,k mb q3 (.inr q5.map),q4,q5⟩
theorem own_ge{W:World}{B e sz n g:Nat}{v:Value}{xs:List Value}(h:W.ownsRow B e sz v n xs)(hg:v.ownBlock=some g):B<=g:=by
 rcases h.2 with⟨hv,_⟩|⟨g2,c2,cur,hv,h3,_⟩
 ·rw[hv] at hg
  cases hg
 ·rw[hv] at hg
  cases hg
  exact h3
end
end
end Go.Proofs.YtjibohkeapdalaaGreatDoor
