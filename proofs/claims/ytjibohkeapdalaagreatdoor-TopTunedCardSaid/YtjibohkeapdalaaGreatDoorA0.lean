/-
  Words for memory that all walks share: slices and tables that read as lists, append, blocks of one's own, the law's same; no condition but those that each lemma states.
-/
import Derived.Test.YtjibohkeapdalaaGreatDoorProg
import Derived.RowKit
import Derived.WalkKit
import Derived.WalkSpells
import Derived.WalkLawsBesides
import Derived.Lib.Hide
import Derived.Maps.AppendAt
import Derived.Deep.AppendLies
import Derived.Deep.DeepCutAuto
import Derived.StillTailTactics
import Derived.BigQuiet
import Derived.Deep.QuietTactic
namespace Go.Proofs.YtjibohkeapdalaaGreatDoor
theorem zh{p:Prop}(h:p):Go.RowKit.Hid p:=h
section
open Go.RowKit
def Sl(w:World)(sz:Nat)(A:Option Addr)(n:Nat)(xs:List Value):Prop:=
 xs.length=n*sz/\(0<n->∃ b o,A=some ⟨b,o,none⟩/\b<w.heap.size/\∀ j u,xs[j]?=some u->w.cell? ⟨b,o+j,none⟩=some u)
section
variable{w w':World}{sz n:Nat}{A:Option Addr}{xs:List Value}
theorem Sl.nil(w:World)(sz:Nat)(A:Option Addr):Sl w sz A 0 []:=⟨by simp,λh=>absurd h (by omega)⟩
theorem Sl.keep(h:Sl w sz A n xs)(hk:∀ p:Addr,p.block<w.heap.size->w'.cell? p=w.cell? p)(hs:w.heap.size<=w'.heap.size):Sl w' sz A n xs:=
 ⟨h.1,λhn=>by
  obtain⟨b,o,e,hb,hc⟩:=h.2 hn
  exact⟨b,o,e,by omega,λj u hu=>(hk _ hb).trans (hc j u hu)⟩⟩
theorem Sl.below(h:Sl w sz A n xs)(hb:Below w.heap.size w w'):Sl w' sz A n xs:=h.keep (λ_ hp=>hb.cell hp) hb.size
theorem Sl.drew(h:Sl w sz A n xs):Sl w.drew sz A n xs:=h
theorem Sl.alloc(h:Sl w sz A n xs)(o:Obj):Sl (w.alloc o) sz A n xs:=h.keep (λp hp=>World.cell?_alloc_lt w o p (by omega)) (by simp)
theorem Sl.grown(h:Sl w sz A n xs){row:Option Nat}(hg:w.grownBy w' row)(hne:0<n->∀ a,A=some a->some a.block≠row):Sl w' sz A n xs:=
 ⟨h.1,λhn=>by
  obtain⟨b,o,e,hb,hc⟩:=h.2 hn
  exact⟨b,o,e,Nat.lt_of_lt_of_le hb hg.size,λj u hu=>(World.cell?_of_block (w:=w) (hg.block b hb (hne hn _ e))).trans (hc j u hu)⟩⟩
theorem Sl.of_own{base:Nat}{e:TypeId}{c:Nat}(h:w.ownsRow base e sz (.slice A n c) n xs):Sl w sz A n xs:=by
 refine⟨h.1,λhn=>?_⟩
 obtain⟨g,cap,hv,_,hlt⟩:=h.form hn
 have hA:A=some ⟨g,0,none⟩:=by injection hv
 subst hA
 refine⟨g,0,rfl,hlt,λj u hu=>?_⟩
 have:=h.cells (g:=g) rfl j u hu
 have hadd:(⟨g,0,none⟩:Addr).add j=⟨g,0+j,none⟩:=by unfold Addr.add;split<;>simp_all
 rwa [hadd] at this
theorem own_slice{base:Nat}{e:TypeId}{v:Value}(h:w.ownsRow base e sz v n xs):∃ A c,v=.slice A n c/\n<=c/\c<=maxLen/\w.ownsRow base e sz (.slice A n c) n xs:=by
 rcases h.2 with⟨rfl,rfl⟩|⟨g,cap,cur,rfl,_,_,hn,hc,_⟩
 ·exact⟨none,0,rfl,Nat.le_refl _,by unfold maxLen;omega,h⟩
 ·exact⟨_,cap,rfl,hn,hc,h⟩
end
theorem flat_get{α:Type}{enc:α->List Value}{sz:Nat}(hsz:∀ x,(enc x).length=sz):∀ (l:List α) (i j:Nat) (x:α),l[i]?=some x->j<sz->(l.flatMap enc)[i*sz+j]?=(enc x)[j]?:=by
 intro l
 induction l with
 |nil=>intro i j x h;simp at h
 |cons a r ih =>
  intro i j x h hj
  cases i with
  |zero =>
   simp at h;subst h
   rw[List.flatMap_cons,Nat.zero_mul,Nat.zero_add,List.getElem?_append_left (by rw[hsz];exact hj)]
  |succ i =>
   rw[List.flatMap_cons,List.getElem?_append_right (by rw[hsz,Nat.succ_mul];omega),hsz,show (i+1)*sz+j-sz=i*sz+j by rw[Nat.succ_mul];omega]
   exact ih i j x (by simpa using h) hj
theorem flat_length{α:Type}{enc:α->List Value}{sz:Nat}(hsz:∀ x,(enc x).length=sz):∀ (l:List α),(l.flatMap enc).length=l.length*sz:=by
 intro l
 induction l with
 |nil=>simp
 |cons a r ih=>rw[List.flatMap_cons,List.length_append,hsz,ih,List.length_cons,Nat.succ_mul];omega
def SlE{α:Type}(enc:α->List Value)(sz:Nat)(w:World)(A:Option Addr)(n:Nat)(l:List α):Prop:=n=l.length/\Sl w sz A n (l.flatMap enc)
theorem SlE.at_{α:Type}{enc:α->List Value}{sz:Nat}(hsz:∀ x,(enc x).length=sz){w:World}{A:Option Addr}{n k:Nat}{l:List α}(h:SlE enc sz w A n l)(hk:k<n) :
 ∃ b o x,A=some ⟨b,o,none⟩/\b<w.heap.size/\l[k]?=some x/\∀ j u,(enc x)[j]?=some u->w.cell? ⟨b,o+(k*sz+j),none⟩=some u:=by
 obtain⟨hn,h1,h2⟩:=h
 obtain⟨b,o,hA,hb,hc⟩:=h2 (by omega)
 have hx:l[k]?=some (l[k]'(by omega)):=List.getElem?_eq_getElem (by omega)
 refine⟨b,o,_,hA,hb,hx,λj u hu=>hc _ u ?_⟩
 have hj:j<sz:=by
  rcases Nat.lt_or_ge j sz with h|h
  ·exact h
  ·rw[List.getElem?_eq_none (by rw[hsz];exact h)] at hu;cases hu
 rw[flat_get hsz l k j _ hx hj];exact hu
section
variable{α:Type}{enc:α->List Value}{sz:Nat}{w w':World}{A:Option Addr}{n:Nat}{l:List α}
theorem SlE.nil(w:World)(A:Option Addr):SlE enc sz w A 0 []:=⟨rfl,Sl.nil _ _ _⟩
theorem SlE.below(h:SlE enc sz w A n l)(hb:Below w.heap.size w w'):SlE enc sz w' A n l:=⟨h.1,h.2.below hb⟩
theorem SlE.alloc(h:SlE enc sz w A n l)(o:Obj):SlE enc sz (w.alloc o) A n l:=⟨h.1,h.2.alloc o⟩
theorem SlE.of_own{base:Nat}{e:TypeId}{c:Nat}(h:w.ownsRow base e sz (.slice A n c) n (l.flatMap enc))(hn:n=l.length):SlE enc sz w A n l:=⟨hn,Sl.of_own h⟩
theorem SlE.grown(h:SlE enc sz w A n l){row:Option Nat}(hg:w.grownBy w' row)(hne:0<n->∀ a,A=some a->some a.block≠row):SlE enc sz w' A n l:=⟨h.1,h.2.grown hg hne⟩
end
def intE(i:Int):List Value:=[.int .i64 i]
theorem intE_len(i:Int):(intE i).length=1:=rfl
theorem SlE.at1{w:World}{A:Option Addr}{n k:Nat}{l:List Int}(h:SlE intE 1 w A n l)(hk:k<n) :
 ∃ b o x,A=some ⟨b,o,none⟩/\b<w.heap.size/\l[k]?=some x/\w.cell? ⟨b,o+k,none⟩=some (.int .i64 x):=by
 obtain⟨b,o,x,hA,hb,hx,hc⟩:=h.at_ intE_len hk
 exact⟨b,o,x,hA,hb,hx,by simpa using hc 0 _ rfl⟩
def ElemOk(P:Program)(t e:TypeId)(sz bytes:Nat):Prop:=P.underlying t=some (.slice e)/\∃ i z,P.info? e=some i/\i.zero=some z/\i.size=sz/\i.bytes=bytes/\z.cells.size=sz/\0<sz
theorem ElemOk.of{P:Program}{t e:TypeId}{sz bytes:Nat}{z:Value}(ht:P.underlying t=some (.slice e))(h:(P.info? e).map (λi=>(i.zero,i.size,i.bytes))=some (some z,sz,bytes))(hz:z.cells.size=sz)(hsz:0<sz):ElemOk P t e sz bytes:=by
 obtain⟨i0,hi,h0,h1,h2⟩:=info_parts h
 exact⟨ht,i0,z,hi,h0,h1,h2,hz,hsz⟩
theorem run_append_nil_src{P:Program}(w:World)(base:Nat)(t ty e:TypeId)(i:TypeInfo)(size:Nat)(ht:P.underlying t=some (.slice e))(hi:P.info? e=some i)
 (v:Value) (n:Nat) (xs:List Value) (hown:w.ownsRow base e size v n xs) (c:Nat):(Builtin.append_ #[t,t] ty #[v,.slice none 0 c]).run P w=.ok v w:=by
 rcases hown.2 with⟨rfl,rfl⟩|⟨g,cap,cur,rfl,_,_,hnc,_⟩
 ·simp[Builtin.append_,run_underlying ht,sizeOf,typeInfo,hi,Builtin.lenOf,Builtin.firstCells]
 ·simp[Builtin.append_,run_underlying ht,sizeOf,typeInfo,hi,Builtin.lenOf,Builtin.firstCells,hnc,storeCells]
theorem run_app{P:Program}(w:World){t e:TypeId}{sz bytes:Nat}(hE:ElemOk P t e sz bytes)(base:Nat)(ty:TypeId)
 (v:Value) (n:Nat) (xs:List Value) (hown:w.ownsRow base e sz v n xs) (A:Option Addr) (m c:Nat) (news:List Value) (hr:Sl w sz A m news) (h1:∀ u∈news,u.oneCell'=true)
 (h63:n+m<=maxLen) (hbytes:(n+m)*bytes<=140737488355328) (hbase:base<=w.heap.size) :
 ∃ A' c' w',(Builtin.append_ #[t,t] ty #[v,.slice A m c]).run P w=.ok (.slice A' (n+m) c') w'/\w'.ownsRow base e sz (.slice A' (n+m) c') (n+m) (xs++news)/\w.grownBy w' v.ownBlock/\
  ((Value.slice A' (n+m) c').ownBlock=v.ownBlock\/(Value.slice A' (n+m) c').ownBlock=some w.heap.size):=by
 obtain⟨ht,i,z,hi,hz,hsize,hby,hzs,hsz⟩:=hE
 have key:∃ v' w',(Builtin.append_ #[t,t] ty #[v,.slice A m c]).run P w=.ok v' w'/\w'.ownsRow base e sz v' (n+m) (xs++news)/\w.grownBy w' v.ownBlock/\(v'.ownBlock=v.ownBlock\/v'.ownBlock=some w.heap.size):=by
  rcases Nat.eq_zero_or_pos m with h0|h0
  ·subst h0
   have hn:news=[]:=List.eq_nil_of_length_eq_zero (by simpa using hr.1)
   subst hn
   rcases A with _|ad
   ·exact⟨v,w,run_append_nil_src w base t ty e i sz ht hi v n xs hown c,by simpa using hown,World.grownBy.refl w _,.inl rfl⟩
   ·obtain⟨v',w',hrun,h2,h3,_,h5⟩:=run_append_own_at (P:=P) w base t ty e i z sz bytes ht hi hz hsize hby hzs hsz v n xs hown ad 0 c [] (by simp) (by simp) h1 h63 hbytes hbase
    exact⟨v',w',hrun,h2,h3,h5⟩
  ·obtain⟨b,o,rfl,hb,hc⟩:=hr.2 h0
   obtain⟨v',w',hrun,h2,h3,_,h5⟩:=run_append_own_at (P:=P) w base t ty e i z sz bytes ht hi hz hsize hby hzs hsz v n xs hown ⟨b,o,none⟩ m c news hr.1
    (λj u hu=>by
     have hadd:(⟨b,o,none⟩:Addr).add j=⟨b,o+j,none⟩:=by unfold Addr.add;split<;>simp_all
     rw[hadd];exact hc j u hu) h1 h63 hbytes hbase
   exact⟨v',w',hrun,h2,h3,h5⟩
 obtain⟨v',w',hrun,h2,h3,h4⟩:=key
 obtain⟨A',c',rfl,_,_,h2'⟩:=own_slice h2
 exact⟨A',c',w',hrun,h2,h3,h4⟩
theorem wp_app{P:Program}{w:World}{o:Oper}{a:Act}{K:Act->World->Prop}{Q:Exit->Act->World->Prop}(s x:Operand)(t:TypeId)
 (ho:o.op=.call { callee:=.builtin .append,args:=#[s,x],argTypes:=#[t,t] })
 {e:TypeId} {sz bytes:Nat} (hE:ElemOk P t e sz bytes) (base:Nat)
 (v:Value) (n:Nat) (xs:List Value) (hs:a.eval s=v) (hown:w.ownsRow base e sz v n xs) (A:Option Addr) (m c:Nat) (news:List Value) (hx:a.eval x=.slice A m c) (hr:Sl w sz A m news) (h1:∀ u∈news,u.oneCell'=true)
 (h63:n+m<=maxLen) (hbytes:(n+m)*bytes<=140737488355328) (hbase:base<=w.heap.size)
 (h:∀ A' c' w',w'.ownsRow base e sz (.slice A' (n+m) c') (n+m) (xs++news)->w.grownBy w' v.ownBlock->((Value.slice A' (n+m) c').ownBlock=v.ownBlock\/(Value.slice A' (n+m) c').ownBlock=some w.heap.size)->
  K (a.put o.dst (.slice A' (n+m) c')) w'):o.wp P a w K Q:=by
 obtain⟨A',c',w',hrun,h2,h3,h4⟩:=run_app (P:=P) w hE base o.type v n xs hown A m c news hr h1 h63 hbytes hbase
 unfold Oper.wp execOp
 simp only[ho,resolve,invoke,builtin,Sem.run_bind,Sem.run_pure,Result.andThen_ok,List.map_toArray,List.map_cons,List.map_nil,hs,hx,hrun]
 exact h A' c' w' h2 h3 h4
theorem wpList_app{P:Program}{w:World}{ops:Array Oper}{rest:List Oper}{o:Oper}{a:Act}{Q:Exit->Act->World->Prop}(hgd:o.guard=none)(s x:Operand)(t:TypeId)
 (ho:o.op=.call { callee:=.builtin .append,args:=#[s,x],argTypes:=#[t,t] })
 {e:TypeId} {sz bytes:Nat} (hE:ElemOk P t e sz bytes) (base:Nat)
 (v:Value) (n:Nat) (xs:List Value) (hs:a.eval s=v) (hown:w.ownsRow base e sz v n xs) (A:Option Addr) (m c:Nat) (news:List Value) (hx:a.eval x=.slice A m c) (hr:Sl w sz A m news) (h1:∀ u∈news,u.oneCell'=true)
 (h63:n+m<=maxLen) (hbytes:(n+m)*bytes<=140737488355328) (hbase:base<=w.heap.size)
 (h:∀ A' c' w',w'.ownsRow base e sz (.slice A' (n+m) c') (n+m) (xs++news)->w.grownBy w' v.ownBlock->((Value.slice A' (n+m) c').ownBlock=v.ownBlock\/(Value.slice A' (n+m) c').ownBlock=some w.heap.size)->
  wpList P ops Q rest (a.put o.dst (.slice A' (n+m) c')) w'):wpList P ops Q (o :: rest) a w:=
 wpList_plain hgd λ_ hK=>wp_app s x t ho hE base v n xs hs hown A m c news hx hr h1 h63 hbytes hbase λA' c' w' h2 h3 h4=>hK _ _ (h A' c' w' h2 h3 h4)
theorem Sl.new(w:World)(cs:Array Value)(e:TypeId)(sz n:Nat)(hn:cs.size=n*sz):Sl (w.alloc (.cells cs e)) sz (some ⟨w.heap.size,0,none⟩) n cs.toList:=by
 refine⟨by simpa using hn,λ_=>⟨_,0,rfl,by simp,λj u hu=>?_⟩⟩
 rw[Nat.zero_add,cell_of_row _ _ j cs e (0,0) (heap_alloc_new w _)]
 simpa using hu
theorem own_new(w:World)(cs:Array Value)(e:TypeId)(sz n base:Nat)(hn:cs.size=n*sz)(hb:base<=w.heap.size)(hm:n<=maxLen):(w.alloc (.cells cs e)).ownsRow base e sz (.slice (some ⟨w.heap.size,0,none⟩) n n) n cs.toList:=
 ⟨by simpa using hn,.inr ⟨_,n,cs,rfl,hb,heap_alloc_new w _,Nat.le_refl _,hm,hn,by rw[List.take_of_length_le];simp[hn]⟩⟩
theorem own_ne{w:World}{b1 b2 s1 s2 n1 n2:Nat}{e1 e2:TypeId}{v1 v2:Value}{xs1 xs2:List Value}(h1:w.ownsRow b1 e1 s1 v1 n1 xs1)(h2:w.ownsRow b2 e2 s2 v2 n2 xs2)(hne:e1≠e2):v1.ownBlock=none\/v1.ownBlock≠v2.ownBlock:=by
 rcases h1.2 with⟨rfl,_⟩|⟨g1,c1,cur1,rfl,_,hh1,_⟩
 ·exact .inl rfl
 ·rcases h2.2 with⟨rfl,_⟩|⟨g2,c2,cur2,rfl,_,hh2,_⟩
  ·exact .inr (by simp[Value.ownBlock])
  ·refine .inr λh=>hne ?_
   have:g1=g2:=by simpa[Value.ownBlock] using h
   subst this
   rw[hh1] at hh2
   simp only[Option.some.injEq,Obj.cells.injEq] at hh2
   exact hh2.2.1
theorem below_own{w w' w'':World}{B base e sz n:Nat}{v:Value}{xs:List Value}(hb:Below B w w')(ho:w'.ownsRow base e sz v n xs)(hB:B<=base)(hw:B<=w'.heap.size)(hg:w'.grownBy w'' v.ownBlock):Below B w w'':=
 hb.grown hg hw λk hk=>Nat.le_trans hB (ho.lt k hk).1
theorem calls_cps{P:Program}{f:FuncId}{args:Array Value}{w:World}{Q:Ending->World->Prop}
 (h:∀ R:Ending->World->Prop,Hid (∀ e w',Q e w'->R e w')->Calls P f args w R):Calls P f args w Q:=h Q λ_ _ h=>h
theorem ret_int{k:IntKind}{a b:Int}(h:a=b):Ending.returned (.int k a)=.returned (.int k b):=by rw[h]
theorem ret_bool{a b:Bool}(h:a=b):Ending.returned (.bool a)=.returned (.bool b):=by rw[h]
end
section
open Go.RowKit
theorem flat_int(r:List Int):r.flatMap intE=r.map (Value.int .i64):=by
 induction r with
 |nil=>rfl
 |cons a r ih=>rw[List.flatMap_cons,ih];rfl
def SlR(w:World)(A:Option Addr)(n:Nat)(rows:List (List Int)):Prop:=
 n=rows.length/\(0<n->∃ b o,A=some ⟨b,o,none⟩/\b<w.heap.size/\∀ i r,rows[i]?=some r->∃ Ai ci,w.cell? ⟨b,o+i,none⟩=some (.slice Ai r.length ci)/\SlE intE 1 w Ai r.length r)
end
section
open Go.RowKit
theorem below_new(w:World)(o:Obj):Below w.heap.size w (w.alloc o):=(Below.refl _ _).alloc (Nat.le_refl _) _
theorem below_two(w:World)(o o':Obj):Below w.heap.size w ((w.alloc o).alloc o'):=(below_new w o).trans ((below_new _ o').mono (by simp))
theorem Sl.newAt(w:World)(cs:Array Value)(e:TypeId)(sz n:Nat)(hn:cs.size=n*sz){b:Nat}(hb:b=w.heap.size):Sl (w.alloc (.cells cs e)) sz (some ⟨b,0,none⟩) n cs.toList:=by
 subst hb;exact Sl.new w cs e sz n hn
theorem own_newAt(w:World)(cs:Array Value)(e:TypeId)(sz n base:Nat)(hn:cs.size=n*sz)(hb:base<=w.heap.size)(hm:n<=maxLen){b:Nat}(hbb:b=w.heap.size):(w.alloc (.cells cs e)).ownsRow base e sz (.slice (some ⟨b,0,none⟩) n n) n cs.toList:=by
 subst hbb;exact own_new w cs e sz n base hn hb hm
theorem below_cells{B b:Nat}{w w1:World}{o:Obj}(h:Below B w w1)(hB:b<B)(hb:w.heap[b]?=some o):w1.heap[b]?=some o:=(h.block b hB).trans hb
theorem cells2{W:World}{b:Nat}{t:TypeId}{u0 u1:Value}(h:W.heap[b]?=some (.cells #[u0,u1] t (0,0))) :
 W.cell? ⟨b,0,none⟩=some u0/\W.cell? ⟨b,1,none⟩=some u1/\(∀ j,W.frozen? ⟨b,j,none⟩=false):=
 ⟨by rw[cell_of_row _ _ 0 _ _ (0,0) h];rfl,by rw[cell_of_row _ _ 1 _ _ (0,0) h];rfl,λj=>by simp[World.frozen?,h]⟩
theorem cells3{W:World}{b:Nat}{t:TypeId}{u0 u1 u2:Value}(h:W.heap[b]?=some (.cells #[u0,u1,u2] t (0,0))) :
 W.cell? ⟨b,0,none⟩=some u0/\W.cell? ⟨b,1,none⟩=some u1/\W.cell? ⟨b,2,none⟩=some u2/\(∀ j,W.frozen? ⟨b,j,none⟩=false):=
 ⟨by rw[cell_of_row _ _ 0 _ _ (0,0) h];rfl,by rw[cell_of_row _ _ 1 _ _ (0,0) h];rfl,by rw[cell_of_row _ _ 2 _ _ (0,0) h];rfl,λj=>by simp[World.frozen?,h]⟩
theorem cells4{W:World}{b:Nat}{t:TypeId}{u0 u1 u2 u3:Value}(h:W.heap[b]?=some (.cells #[u0,u1,u2,u3] t (0,0))) :
 W.cell? ⟨b,0,none⟩=some u0/\W.cell? ⟨b,1,none⟩=some u1/\W.cell? ⟨b,2,none⟩=some u2/\W.cell? ⟨b,3,none⟩=some u3/\(∀ j,W.frozen? ⟨b,j,none⟩=false):=
 ⟨by rw[cell_of_row _ _ 0 _ _ (0,0) h];rfl,by rw[cell_of_row _ _ 1 _ _ (0,0) h];rfl,by rw[cell_of_row _ _ 2 _ _ (0,0) h];rfl,by rw[cell_of_row _ _ 3 _ _ (0,0) h];rfl,λj=>by simp[World.frozen?,h]⟩
theorem int_one(l:List Int):∀ u∈l.flatMap intE,u.oneCell'=true:=by
 intro u hu
 obtain⟨x,_,hx⟩:=List.mem_flatMap.1 hu
 simp only[intE,List.mem_cons,List.not_mem_nil,or_false] at hx
 rcases hx with rfl
 rfl
end
section
open Go.RowKit
theorem ownsRow_below{W W1:World}{base e sz n:Nat}{v:Value}{xs:List Value}(h:W.ownsRow base e sz v n xs)(hb:Below W.heap.size W W1):W1.ownsRow base e sz v n xs:=
 h.kept (row:=none) ⟨hb.os,hb.tape,hb.output,hb.size,λk hk _=>hb.block k hk⟩ (by cases v.ownBlock<;>simp)
def TblO(W:World)(base:Nat)(eo ei:TypeId)(v:Value)(L:Nat)(rows:List (List Int))(outer:List Value):Prop:=
 L=rows.length/\W.ownsRow base eo 1 v L outer/\∀ (i:Nat) (r:List Int),rows[i]?=some r->∃ Ai ci,outer[i]?=some (.slice Ai r.length ci)/\r.length<=ci/\W.ownsRow base ei 1 (.slice Ai r.length ci) r.length (r.flatMap intE)
def TblR(W:World)(base:Nat)(eo ei:TypeId)(v:Value)(L:Nat)(rows:List (List Int)):Prop:=∃ outer,TblO W base eo ei v L rows outer
section
variable{W W' W1 W2:World}{base L n:Nat}{eo ei:TypeId}{v v':Value}{rows:List (List Int)}{outer:List Value}
theorem TblO.below(t:TblO W base eo ei v L rows outer)(hb:Below W.heap.size W W'):TblO W' base eo ei v L rows outer:=by
 obtain⟨h1,h2,h3⟩:=t
 refine⟨h1,ownsRow_below h2 hb,λi r hr=>?_⟩
 obtain⟨Ai,ci,a,b,c⟩:=h3 i r hr
 exact⟨Ai,ci,a,b,ownsRow_below c hb⟩
theorem TblO.own(t:TblO W base eo ei v L rows outer):W.ownsRow base eo 1 v L outer:=t.2.1
theorem TblO.start(h:W.ownsRow base eo 1 v 0 []):TblO W base eo ei v 0 [] []:=⟨rfl,h,λi r hr=>by simp at hr⟩
theorem TblO.snoc(t:TblO W base eo ei v L rows outer)(hne:eo≠ei){r:List Int}{Ar:Option Addr}{cr:Nat}(hn:r.length=n)(hr:W.ownsRow base ei 1 (.slice Ar n cr) n (r.flatMap intE))(hrc:n<=cr)
 (ho:W2.ownsRow base eo 1 v' (L+1) (outer++[.slice Ar n cr])) (hg:W.grownBy W2 v.ownBlock):TblO W2 base eo ei v' (L+1) (rows++[r]) (outer++[.slice Ar n cr]):=by
 subst hn
 obtain⟨h1,h2,h3⟩:=t
 have hlen:outer.length=L:=by simpa using h2.1
 refine⟨by simp[h1],ho,λi r' hr'=>?_⟩
 by_cases hi:i<rows.length
 ·rw[List.getElem?_append_left hi] at hr'
  obtain⟨Ai,ci,a,b,c⟩:=h3 i r' hr'
  refine⟨Ai,ci,by rw[List.getElem?_append_left (by omega)];exact a,b,c.kept hg (own_ne c h2 (λe=>hne e.symm))⟩
 ·have hi':i=rows.length:=by
   have:=(List.getElem?_eq_some_iff.1 hr').1
   simp at this;omega
  subst hi'
  simp at hr'
  subst hr'
  refine⟨Ar,cr,by rw[List.getElem?_append_right (by omega),hlen,← h1];simp,hrc,hr.kept hg (own_ne hr h2 (λe=>hne e.symm))⟩
theorem TblR.slr{A:Option Addr}{c:Nat}(t:TblR W base eo ei (.slice A L c) L rows):SlR W A L rows:=by
 obtain⟨outer,h1,h2,h3⟩:=t
 refine⟨h1,λhn=>?_⟩
 obtain⟨b,c',hv,_,hb⟩:=h2.form hn
 have hA:A=some ⟨b,0,none⟩:=by injection hv
 subst hA
 refine⟨b,0,rfl,hb,λi r hr=>?_⟩
 obtain⟨Ai,ci,a,_,cc⟩:=h3 i r hr
 refine⟨Ai,ci,?_,SlE.of_own cc rfl⟩
 rw[Nat.zero_add]
 have hc:=h2.cells (g:=b) rfl i _ a
 have hadd:(⟨b,0,none⟩:Addr).add i=⟨b,i,none⟩:=by unfold Addr.add;split<;>simp_all
 rwa [hadd] at hc
end
end
section
open Go.RowKit
theorem step_app{P:Program}{w:World}{ops:Array Oper}{o:Oper}{a:Act}{K:Act->World->Prop}{Q:Exit->Act->World->Prop}{E:Prop}(hgd:o.guard=none)(s x:Operand)(t:TypeId)
 (ho:o.op=.call { callee:=.builtin .append,args:=#[s,x],argTypes:=#[t,t] })
 {e:TypeId} {sz bytes:Nat} (hE:ElemOk P t e sz bytes) (base:Nat)
 (v:Value) (n:Nat) (xs:List Value) (hs:a.eval s=v) (hown:w.ownsRow base e sz v n xs) (A:Option Addr) (m c:Nat) (news:List Value) (hx:a.eval x=.slice A m c) (hr:Sl w sz A m news) (h1:∀ u∈news,u.oneCell'=true)
 (h63:n+m<=maxLen) (hbytes:(n+m)*bytes<=140737488355328) (hbase:base<=w.heap.size)
 (h:∀ A' c' w',w'.ownsRow base e sz (.slice A' (n+m) c') (n+m) (xs++news)->w.grownBy w' v.ownBlock->((Value.slice A' (n+m) c').ownBlock=v.ownBlock\/(Value.slice A' (n+m) c').ownBlock=some w.heap.size)->
  K (a.put o.dst (.slice A' (n+m) c')) w'):if Region.wanted o (yielded ops a.tmps)=true then Oper.wp P o a w K Q else E:=by
 have hw:Region.wanted o (yielded ops a.tmps)=true:=by simp[Region.wanted,hgd]
 rw[if_pos hw]
 exact wp_app s x t ho hE base v n xs hs hown A m c news hx hr h1 h63 hbytes hbase h
end
section
open Go.RowKit
def Qt(w w':World):Prop:=∃ q,w'=w.drewN q
theorem Qt.refl(w:World):Qt w w:=⟨0,(World.drewN_zero (w:=w)).symm⟩
theorem Qt.step{w w':World}(h:Qt w w')(q:Nat):Qt w (w'.drewN q):=by
 obtain⟨a,rfl⟩:=h
 exact⟨a+q,World.drewN_drewN _ _ _⟩
theorem Qt.below{w w':World}(hq:Qt w w'):Below w.heap.size w w':=by
 obtain⟨a,rfl⟩:=hq;exact⟨rfl,rfl,rfl,Nat.le_refl _,λ_ _=>rfl⟩
end
end Go.Proofs.YtjibohkeapdalaaGreatDoor
