/-
  Contracts of temper.Check's fellows, Errors, Cost and Better; each states its condition.
-/
import Derived.Test.YtjibohkeapdalaaGreatDoorBa
import Derived.Test.YtjibohkeapdalaaGreatDoorBb
import Derived.Lib.SliceRun
import Derived.Deep.RegionHeld3
namespace Go.Proofs.YtjibohkeapdalaaGreatDoor
set_option maxHeartbeats 1000000
set_option maxRecDepth 100000
section
open Go.RowKit
theorem ring9{r:Rg}{A B:Option Addr}{n c m d:Nat}{W:World}{b:Nat}(h:W.heap[b]?=some (.cells #[.int .i64 r.N,.int .i64 r.S,.int .i64 r.low,.int .i64 r.high,.int .i64 r.total,.int .i64 r.pure,.int .i64 r.worst,.slice A n c,.slice B m d] 24)) :
 W.cell? ⟨b,0,none⟩=some (.int .i64 r.N)/\W.cell? ⟨b,1,none⟩=some (.int .i64 r.S)/\W.cell? ⟨b,2,none⟩=some (.int .i64 r.low)/\W.cell? ⟨b,3,none⟩=some (.int .i64 r.high)/\W.cell? ⟨b,4,none⟩=some (.int .i64 r.total)/\
 W.cell? ⟨b,5,none⟩=some (.int .i64 r.pure)/\W.cell? ⟨b,6,none⟩=some (.int .i64 r.worst)/\W.cell? ⟨b,7,none⟩=some (.slice A n c)/\W.cell? ⟨b,8,none⟩=some (.slice B m d)/\(∀ j,W.frozen? ⟨b,j,none⟩=false):=by
 have key:∀ (j:Nat) (v:Value),(#[.int .i64 r.N,.int .i64 r.S,.int .i64 r.low,.int .i64 r.high,.int .i64 r.total,.int .i64 r.pure,.int .i64 r.worst,.slice A n c,.slice B m d]:Array Value)[j]?=some v->W.cell? ⟨b,j,none⟩=some v:=λj v hv=>by rw[cell_of_row _ _ j _ _ (0,0) h];exact hv
 exact⟨key 0 _ rfl,key 1 _ rfl,key 2 _ rfl,key 3 _ rfl,key 4 _ rfl,key 5 _ rfl,key 6 _ rfl,key 7 _ rfl,key 8 _ rfl,λj=>by simp[World.frozen?,h]⟩
theorem below_drewN{b:Nat}{W W':World}(h:Below b W W')(q:Nat):Below b W (W'.drewN q):=⟨h.os,h.tape,h.output,h.size,h.block⟩
end
section
open Go.RowKit
theorem own_base{W:World}{b b' e s n:Nat}{v:Value}{xs:List Value}(h:W.ownsRow b e s v n xs)(hb:b'<=b):W.ownsRow b' e s v n xs:=by
 refine⟨h.1,?_⟩
 rcases h.2 with h|⟨g,c,cur,h1,h2,h3⟩
 ·exact .inl h
 ·exact .inr ⟨g,c,cur,h1,Nat.le_trans hb h2,h3⟩
theorem infoInt8:(Tryz.prog.info? 3).map (λi=>(i.zero,i.size,i.bytes))=some (some (.int .i64 0),1,8):=by kernel_rfl
theorem elemInt:ElemOk Tryz.prog 22 3 1 8:=ElemOk.of (z:=.int .i64 0) Tryz.underlying22 infoInt8 rfl (by omega)
theorem app_below1{wc w3:World}{o:Obj}{b:Nat}(hb:b=wc.heap.size)(hg:(wc.alloc o).grownBy w3 (some b)):Below wc.heap.size wc w3:=
 (below_new wc o).grown hg (by simp) (λk hk=>by injection hk with hk;omega)
theorem rgOk_of{r:Rg}(hr:r.Ok):rgOk ⟨r.N,r.S,r.low,r.high,r.total,r.pure,r.worst⟩ r.fi r.th=true:=by
 unfold rgOk
 simp only[Bool.and_eq_true,inB_iff,decide_eq_true_eq,List.all_eq_true]
 have:=hr.n1;have:=hr.n2;have:=hr.s1;have:=hr.s2;have:=hr.s3;have:=hr.l1;have:=hr.l2;have:=hr.h1;have:=hr.h2;have:=hr.t1;have:=hr.t2
 have:=hr.p1;have:=hr.p2;have:=hr.w1;have:=hr.w2;have:=hr.fl;have:=hr.tl
 exact⟨⟨⟨⟨⟨⟨⟨⟨⟨by omega,by omega⟩,by omega⟩,by omega⟩,by omega⟩,by omega⟩,by omega⟩,by omega⟩,hr.fw,by omega⟩,hr.tw,by omega⟩
theorem check_ok(r:Rg)(hr:r.Ok)(A B:Option Addr)(n c m d:Nat)(w:World)(hF:SlE intE 1 w A n r.fi)(hT:SlE intE 1 w B m r.th) :
 Calls Tryz.prog 28 #[.agg #[.int .i64 r.N,.int .i64 r.S,.int .i64 r.low,.int .i64 r.high,.int .i64 r.total,.int .i64 r.pure,.int .i64 r.worst,.slice A n c,.slice B m d]] w λe w'=>e=.returned (.int .i64 0)/\Below w.heap.size w w':=by
 have h:=check_any ⟨r.N,r.S,r.low,r.high,r.total,r.pure,r.worst⟩ A B n c m d r.fi r.th w hF hT (by rw[hF.1,hr.fl];have:=hr.n2;omega) (by rw[hT.1,hr.tl];have:=hr.n2;omega)
 rw[rgOk_of hr] at h
 exact h
theorem below_box{w w1:World}{o:Obj}(hb:Below (w.alloc o).heap.size (w.alloc o) w1):Below w.heap.size w w1:=(below_new w o).trans (hb.mono (by simp))
end
section
open Go.RowKit
theorem clone_any(a:Addr)(n c:Nat)(l:List Int)(w:World)(hA:SlE intE 1 w (some a) n l)(hn:n<=2000) :
 Calls Tryz.prog 73 #[.slice (some a) n c] w λe w'=>∃ A' c',e=.returned (.slice A' n c')/\w'.ownsRow w.heap.size 3 1 (.slice A' n c') n (l.flatMap intE)/\Below w.heap.size w w':=by
 refine calls_cps ?_
 intro R hR
 have hnil:=λ(W:World)=>Lib.run_eql_slice_nil (P:=Tryz.prog) W 22 3 (some a) n c 0 0 Tryz.underlying22
 go_enter Tryz.func73,Tryz.ntmps73
 go_wp2_with (at_builtin;refine wpList_app rfl (.tmp 5) (.tmp 6) _ rfl elemInt w.heap.size _ _ _ rfl (own_new _ _ _ 1 0 _ (by simp) (Nat.le_refl _) (by unfold maxLen;omega)) _ _ _ _ rfl (hA.2.alloc _) (int_one _) (by unfold maxLen;omega) (by omega) (by simp) ?_;intro A3 c3 w3 ho3 hg3 _;rw[Nat.zero_add,List.nil_append] at ho3;have hb3:=app_below1 rfl hg3;clear hg3)
 exact hR.out _ _ ⟨_,_,rfl,ho3,hb3⟩
end
section
open Go.RowKit
structure Cls(B:Nat)(w0:World)(ι:Type)(mk:ι->World):Prop where
 iff:∀ w',Below B w0 w' ↔ ∃ n,w'=mk n
theorem cls_ex(B:Nat)(w0:World):∃ (ι:Type) (mk:ι->World),Cls B w0 ι mk:=
 ⟨{ w' // Below B w0 w' },Subtype.val,⟨λw'=>⟨λh=>⟨⟨w',h⟩,rfl⟩,by rintro⟨n,rfl⟩;exact n.2⟩⟩⟩
section
variable{B:Nat}{w0:World}{ι:Type}{mk:ι->World}
theorem Cls.below(h:Cls B w0 ι mk)(n:ι):Below B w0 (mk n):=(h.iff _).2 ⟨n,rfl⟩
theorem Cls.ne(h:Cls B w0 ι mk):Nonempty ι:=let ⟨n,_⟩:=(h.iff _).1 (Below.refl B w0);⟨n⟩
theorem Cls.drew(h:Cls B w0 ι mk):∃ n,{ w0 with drawn:=w0.drawn+1 }=mk n:=(h.iff _).1 (Below.refl B w0).drew
theorem Cls.call(h:Cls w0.heap.size w0 ι mk){P:Program}{f:FuncId}{args:Array Value}{n:ι}{v:Value}
 (hc:Calls P f args (mk n) λe w'=>e=.returned v/\Below (mk n).heap.size (mk n) w'):Calls P f args (mk n) λe w''=>e=.returned v/\∃ m,w''=mk m:=
 hc.mono λ_ _ ⟨he,hb⟩=>⟨he,(h.iff _).1 ((h.below n).trans (hb.mono (h.below n).size))⟩
end
end
end Go.Proofs.YtjibohkeapdalaaGreatDoor
