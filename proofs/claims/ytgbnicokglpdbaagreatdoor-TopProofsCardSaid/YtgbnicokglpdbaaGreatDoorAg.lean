/-
A house as its cells; conditions: those of each theorem.
-/
import Derived.Test.YtgbnicokglpdbaaGreatDoorAf
import Derived.Test.YtgbnicokglpdbaaGreatDoorD0
namespace Go.Proofs.YtgbnicokglpdbaaGreatDoor
set_option maxHeartbeats 4000000
set_option maxRecDepth 100000
section
section
open Go.RowKit Go.Shelf
structure Hs(W:World)(F:Nat->Prop)(h a dk:Nat)(d:Dk)(b:Bk)(sh:List aj):Prop where
 bd:Bd W F a dk d b
 own:F h
 cells:∃ C:Array Value,W.heap[h]?=some (.cells C 63 (0,0))/\C[0]?=some (.bool true)/\C[13]?=some (.pointer (some ⟨dk,0,none⟩))/\C[14]?=some (.pointer (some ⟨a,0,none⟩))/\
  ∃ A c,C[12]?=some (.slice A sh.length c)/\W.ownsRow 0 94 4 (.slice A sh.length c) sh.length (sh.flatMap aj.enc)/\∀ g,(Value.slice A sh.length c).ownBlock=some g->F g
theorem Hs.at{W:World}{F:Nat->Prop}{h a dk:Nat}{d:Dk}{b:Bk}{sh:List aj}(hh:Hs W F h a dk d b sh):∃ A c,W.cell? ⟨h,0,none⟩=some (.bool true)/\W.cell? ⟨h,13,none⟩=some (.pointer (some ⟨dk,0,none⟩))/\W.cell? ⟨h,14,none⟩=some (.pointer (some ⟨a,0,none⟩))/\
 W.cell? ⟨h,12,none⟩=some (.slice A sh.length c)/\(∀ j,W.frozen? ⟨h,j,none⟩=false)/\Hid (W.ownsRow 0 94 4 (.slice A sh.length c) sh.length (sh.flatMap aj.enc))/\Hid (∀ g,(Value.slice A sh.length c).ownBlock=some g->F g):=by
 obtain⟨C,h1,h2,h3,h4,A,c,h5,h6,h7⟩:=hh.cells
 exact⟨A,c,by rw[cell_of_row _ _ 0 _ _ (0,0) h1];exact h2,by rw[cell_of_row _ _ 13 _ _ (0,0) h1];exact h3,by rw[cell_of_row _ _ 14 _ _ (0,0) h1];exact h4,by rw[cell_of_row _ _ 12 _ _ (0,0) h1];exact h5,λj=>by simp[World.frozen?,h1],zh h6,zh h7⟩
theorem Hs.below{W w:World}{F:Nat->Prop}{h a dk:Nat}{d:Dk}{b:Bk}{sh:List aj}(hh:Hs W F h a dk d b sh)(k:Below W.heap.size W w):Hs w F h a dk d b sh:=by
 obtain⟨C,h1,h2,h3,h4,A,c,h5,h6,h7⟩:=hh.cells
 exact⟨hh.bd.below k,hh.own,C,(k.block _ (Array.getElem?_eq_some_iff.1 h1).1).trans h1,h2,h3,h4,A,c,h5,aH h6 (λg hg=>by obtain⟨D,hD⟩:=a8 h6 hg;exact k.block g (Array.getElem?_eq_some_iff.1 hD).1),h7⟩
theorem Ae(w:World)(F:Nat->Prop)(hu:Up w F):Calls Tryz.prog 5 #[] w λe w'=>∃ h a dk,w.heap.size<=h/\e=.returned (.pointer (some ⟨h,0,none⟩))/\Hs w' F h a dk Dk.new ⟨[],false⟩ []/\Below w.heap.size w w':=by
 refine ae ?_
 intro R hR
 have HU:=zh hu
 have HD:=zh (vk w F hu)
 clear hu
 go_enter Tryz.func5,Tryz.ntmps5
 go_wp2_with (go_at_call 12;(with_reducible refine HD.out.mono ?_);rintro e w1 ⟨rfl,bf,aF⟩;have bi:=zh bf;have aa:=zh aF;clear bf aF)
 refine (vo w1 F w.heap.size bi.out (HU.out.below aa.out)).mono ?_
 rintro e w2 ⟨a,ha,rfl,bc,a0⟩
 have bg:=zh bc
 have am:=zh a0
 clear bc a0
 go_wp2
 have a9:=ab w2 (.cells #[.bool true,.pointer none,.slice none 0 0,.slice none 0 0,.slice none 0 0,.slice none 0 0,.slice none 0 0,.slice none 0 0,.slice none 0 0,.slice none 0 0,.pointer none,.slice none 0 0,.slice none 0 0,.pointer (some ⟨w.heap.size,0,none⟩),.pointer (some ⟨a,0,none⟩)] 63)
 have ad:w.heap.size<=w2.heap.size:=Nat.le_trans aa.out.size am.out.size
 exact hR.out _ _ ⟨w2.heap.size,a,w.heap.size,ad,rfl,⟨bg.out.below a9,HU.out _ ad,_,heap_alloc_new w2 _,rfl,rfl,rfl,none,0,rfl,World.ownsRow_nil _ _ _ _,λg hg=>by simp[Value.ownBlock] at hg⟩,(aa.out.trans (am.out.mono aa.out.size)).trans (a9.mono ad)⟩
end
end
section
section
open Go.RowKit Go.Shelf
theorem Jp:(Tryz.prog.info? 9).map (λi=>(i.zero,i.size,i.bytes))=some (some (.string ByteArray.empty),1,16):=by kernel_rfl
theorem Jh:au Tryz.prog 292 9 1 16:=au.of (z:=.string ByteArray.empty) Tryz.underlying292 Jp rfl (by omega)
end
end
section
section
open Go.RowKit Go.Shelf
theorem Bt (v : Value) (w : World) : (method 611 292 v "clavecin/house.text").run Tryz.prog w = .ok (458, v) w := by kernel_rfl
theorem xK (v : Value) (w : World) : (method 611 64 v "clavecin/house.text").run Tryz.prog w = .ok (14, v) w := by kernel_rfl
end
end
section
section
open Go.RowKit Go.Shelf
def ff:List (List UInt8×List UInt8×FuncId):=[
 ([116,111,110,101],[119],91),
 ([114,105,110,103],[110,32,110,32,110,32,110,32,110,32,110,32,110],92),
 ([119,101,105,103,104],[102,105,102,116,104,124,116,104,105,114,100,32,110,32,110],93),
 ([116,101,109,112,101,114],[],94),
 ([115,116,101,112,115],[110,43],95),
 ([115,99,97,108,101],[110,32,110],96),
 ([98,101,97,116,115],[110,32,110],97),
 ([99,108,111,115,101,115],[110],98),
 ([103,97,117,103,101,115],[110,43],99),
 ([109,101,116,97,108],[110,32,110,43],100),
 ([99,111,117,114,115,101],[110,32,110,32,110,32,110],101),
 ([115,116,114,105,110,103],[110,32,110],102),
 ([119,105,114,101],[110,32,110,32,110],103),
 ([99,111,105,108,115],[110,32,110,42],104),
 ([106,97,99,107],[110,32,110],105),
 ([113,117,105,108,108],[110,32,110],106),
 ([118,111,105,99,101],[110,32,110],107),
 ([116,105,101],[110,32,110,32,110],108),
 ([114,101,103,117,108,97,116,101],[110],109),
 ([114,101,103,105,115,116,101,114],[110,32,110,32,110,32,111,110,124,111,102,102],110),
 ([97,99,116,105,111,110],[110,32,110],111),
 ([107,101,121],[110,32,110],112),
 ([116,105,99,107,115],[110],113),
 ([111,110],[110],114),
 ([111,102,102],[110],115),
 ([115,116,97,116,101],[110,32,110],116),
 ([116,97,115,107],[110,32,110,32,110,32,110,42],117),
 ([112,108,97,110],[110],118),
 ([99,117,114,118,101],[],119),
 ([115,104,97,112,101],[110,32,110,32,110,32,116,117,114,110,124,102,105,120,101,100],120),
 ([112,97,110,101,108],[110,32,110,32,110],121),
 ([115,97,119],[110,32,110,32,110],122),
 ([112,111,115,116],[112,111,115,116],123),
 ([114,101,118,101,114,115,101],[110],124),
 ([98,97,108,97,110,99,101],[119,32,119],125),
 ([108,111,116,115],[],126),
 ([98,111,111,107],[],127),
 ([97,114,109],[110],128),
 ([114,101,115,116,97,114,116],[110],129),
 ([99,108,101,97,114],[114,105,110,103,124,115,116,114,105,110,103,115,124,106,97,99,107,115,124,116,105,101,115,124,97,99,116,105,111,110,124,116,97,115,107,115,124,115,104,97,112,101,115],130)]
def mK(x:List UInt8×List UInt8×FuncId):List Value:=[.string ⟨x.1.toArray⟩,.string ⟨x.2.1.toArray⟩,.func (.func x.2.2) #[] #[]]
theorem nE(x:List UInt8×List UInt8×FuncId):(mK x).length=3:=rfl
theorem nF:ff.length=40:=rfl
theorem pm(w:World):Calls Tryz.prog 41 #[] w λe w'=>∃ c,e=.returned (.slice (some ⟨w.heap.size,0,none⟩) 40 c)/\ag mK 3 w' (some ⟨w.heap.size,0,none⟩) 40 ff/\Below w.heap.size w w':=by
 refine ae ?_
 intro R hR
 have HF:=zh (show ∀ W,W=w.alloc (.cells (ff.flatMap mK).toArray 125)->R (.returned (.slice (some ⟨w.heap.size,0,none⟩) 40 40)) W from λW hW=>by
  subst hW
  refine hR.out _ _ ⟨40,rfl,⟨rfl,?_⟩,ab w _⟩
  have h:=Sl.new w (ff.flatMap mK).toArray 125 3 40 (by rw[List.size_toArray,bU nE,nF])
  simpa using h)
 clear hR
 go_enter Tryz.func41,Tryz.ntmps41
 go_wp2
 exact HF.out _ rfl
end
end
end Go.Proofs.YtgbnicokglpdbaaGreatDoor
