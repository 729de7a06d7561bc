/-
  The plain mathematics of a panel: what can be done with a rectangle, the greatest value of each rectangle, the plan that reaches it. No program in sight; no condition but those that each lemma states. How shapes, cuts and pieces lie in memory; no condition but those that each lemma states. A house as its cells; New, Lots; no condition but that the cells hold a house. The printed book; conditions: the cells hold a house whose entries are entries, the tables lie below a block. (*House).Book; conditions: the cells hold a house whose entries are entries, the tables lie below a block.
-/
import Derived.Test.YtjibohkeapdalaaGreatDoorA0
import Derived.Test.YtjibohkeapdalaaGreatDoorAg
namespace Go.Proofs.YtjibohkeapdalaaGreatDoor
set_option maxHeartbeats 2000000
set_option maxRecDepth 8000
section
structure Shp where
 W:Int
 H:Int
 V:Int
 T:Bool
abbrev Way:=(Int×Int)×Int
def shW(w h:Int)(i:Nat)(s:Shp):List Way:=
 (if s.W=w/\s.H=h then [((1,(i:Int)),s.V)] else [])++(if s.T=true/\s.H=w/\s.W=h then [((2,(i:Int)),s.V)] else [])
def shWs(w h:Int):Nat->List Shp->List Way
 |_,[]=>[]
 |i,s :: r=>shW w h i s++shWs w h (i+1) r
def acW(T:Int->Int->Int)(k w h:Int)(n:Nat):List Way:=(List.range n).map λ(a:Nat)=>((3,(a:Int)+1),T ((a:Int)+1) h+T (w-((a:Int)+1)-k) h)
def dnW(T:Int->Int->Int)(k w h:Int)(n:Nat):List Way:=(List.range n).map λ(a:Nat)=>((4,(a:Int)+1),T w ((a:Int)+1)+T w (h-((a:Int)+1)-k))
def ways(T:Int->Int->Int)(k:Int)(ss:List Shp)(w h:Int):List Way:=
 ((0,0),0) :: (shWs w h 0 ss++(acW T k w h (w-1).toNat++dnW T k w h (h-1).toNat))
def most(l:List Way):Int:=l.foldl (λm x=>max m x.2) 0
def valF(k:Int)(ss:List Shp):Nat->Int->Int->Int
 |0,_,_=>0
 |f+1,w,h=>if w<1\/h<1 then 0 else most (ways (valF k ss f) k ss w h)
def val(k:Int)(ss:List Shp)(w h:Int):Int:=valF k ss (w.toNat+h.toNat) w h
def pick(k:Int)(ss:List Shp)(w h:Int):Option Way:=(ways (val k ss) k ss w h).find? λx=>x.2==val k ss w h
end
section
open Go.RowKit
def Shp.enc(s:Shp):List Value:=[.int .i64 s.W,.int .i64 s.H,.int .i64 s.V,.bool s.T]
end
section
section
open Go.RowKit Go.Shelf
structure Hs(W:World)(F:Nat->Prop)(h a dk:Nat)(d:Dk)(b:Bk)(sh:List Shp):Prop where
 bd:Bd W F a dk d b
 own:F h
 cells:∃ C:Array Value,W.heap[h]?=some (.cells C 87 (0,0))/\C[0]?=some (.bool true)/\C[13]?=some (.pointer (some ⟨dk,0,none⟩))/\C[14]?=some (.pointer (some ⟨a,0,none⟩))/\
  ∃ A c,C[12]?=some (.slice A sh.length c)/\W.ownsRow 0 149 4 (.slice A sh.length c) sh.length (sh.flatMap Shp.enc)/\∀ g,(Value.slice A sh.length c).ownBlock=some g->F g
theorem Hs.at{W:World}{F:Nat->Prop}{h a dk:Nat}{d:Dk}{b:Bk}{sh:List Shp}(hh:Hs W F h a dk d b sh):∃ A c,W.cell? ⟨h,0,none⟩=some (.bool true)/\W.cell? ⟨h,13,none⟩=some (.pointer (some ⟨dk,0,none⟩))/\W.cell? ⟨h,14,none⟩=some (.pointer (some ⟨a,0,none⟩))/\
 W.cell? ⟨h,12,none⟩=some (.slice A sh.length c)/\(∀ j,W.frozen? ⟨h,j,none⟩=false)/\Hid (W.ownsRow 0 149 4 (.slice A sh.length c) sh.length (sh.flatMap Shp.enc))/\Hid (∀ g,(Value.slice A sh.length c).ownBlock=some g->F g):=by
 obtain⟨C,h1,h2,h3,h4,A,c,h5,h6,h7⟩:=hh.cells
 exact⟨A,c,by rw[cell_of_row _ _ 0 _ _ (0,0) h1];exact h2,by rw[cell_of_row _ _ 13 _ _ (0,0) h1];exact h3,by rw[cell_of_row _ _ 14 _ _ (0,0) h1];exact h4,by rw[cell_of_row _ _ 12 _ _ (0,0) h1];exact h5,λj=>by simp[World.frozen?,h1],zh h6,zh h7⟩
theorem Hs.below{W w:World}{F:Nat->Prop}{h a dk:Nat}{d:Dk}{b:Bk}{sh:List Shp}(hh:Hs W F h a dk d b sh)(k:Below W.heap.size W w):Hs w F h a dk d b sh:=by
 obtain⟨C,h1,h2,h3,h4,A,c,h5,h6,h7⟩:=hh.cells
 exact⟨hh.bd.below k,hh.own,C,(k.block _ (Array.getElem?_eq_some_iff.1 h1).1).trans h1,h2,h3,h4,A,c,h5,own_heap h6 (λg hg=>by obtain⟨D,hD⟩:=own_blk h6 hg;exact k.block g (Array.getElem?_eq_some_iff.1 hD).1),h7⟩
theorem new_any(w:World)(F:Nat->Prop)(hu:Up w F):Calls Tryz.prog 5 #[] w λe w'=>∃ h a dk,w.heap.size<=h/\e=.returned (.pointer (some ⟨h,0,none⟩))/\Hs w' F h a dk Dk.new ⟨[],false⟩ []/\Below w.heap.size w w':=by
 refine calls_cps ?_
 intro R hR
 have HU:=zh hu
 have HD:=zh (ndisk_any w F hu)
 clear hu
 go_enter Tryz.func5,Tryz.ntmps5
 go_wp2_with (go_at_call 21;(with_reducible refine HD.out.mono ?_);rintro e w1 ⟨rfl,hd1,hb1⟩;have HD1:=zh hd1;have HB1:=zh hb1;clear hd1 hb1)
 refine (open0_any w1 F w.heap.size HD1.out (HU.out.below HB1.out)).mono ?_
 rintro e w2 ⟨a,ha,rfl,hbd,hb2⟩
 have HBd:=zh hbd
 have HB2:=zh hb2
 clear hbd hb2
 go_wp2
 have hb3:=below_new w2 (.cells #[.bool true,.pointer none,.slice none 0 0,.slice none 0 0,.slice none 0 0,.slice none 0 0,.slice none 0 0,.slice none 0 0,.slice none 0 0,.slice none 0 0,.pointer none,.slice none 0 0,.slice none 0 0,.pointer (some ⟨w.heap.size,0,none⟩),.pointer (some ⟨a,0,none⟩)] 87)
 have h12:w.heap.size<=w2.heap.size:=Nat.le_trans HB1.out.size HB2.out.size
 exact hR.out _ _ ⟨w2.heap.size,a,w.heap.size,h12,rfl,⟨HBd.out.below hb3,HU.out _ h12,_,heap_alloc_new w2 _,rfl,rfl,rfl,none,0,rfl,World.ownsRow_nil _ _ _ _,λg hg=>by simp[Value.ownBlock] at hg⟩,(HB1.out.trans (HB2.out.mono HB1.out.size)).trans (hb3.mono h12)⟩
end
end
section
section
open Go.RowKit Go.Shelf
theorem infoLn:(Tryz.prog.info? 9).map (λi=>(i.zero,i.size,i.bytes))=some (some (.string ByteArray.empty),1,16):=by kernel_rfl
theorem elemLn:ElemOk Tryz.prog 387 9 1 16:=ElemOk.of (z:=.string ByteArray.empty) Tryz.underlying387 infoLn rfl (by omega)
end
end
section
section
open Go.RowKit Go.Shelf
theorem meth_lines (v : Value) (w : World) : (method 613 387 v "clavecin/house.text").run Tryz.prog w = .ok (461, v) w := by kernel_rfl
theorem meth_refusal (v : Value) (w : World) : (method 613 88 v "clavecin/house.text").run Tryz.prog w = .ok (23, v) w := by kernel_rfl
end
end
end Go.Proofs.YtjibohkeapdalaaGreatDoor
