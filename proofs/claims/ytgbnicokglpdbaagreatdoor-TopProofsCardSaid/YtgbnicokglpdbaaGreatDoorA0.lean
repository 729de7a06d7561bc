/-
Words for memory that all walks share; conditions: those of each theorem.
-/
import Derived.Test.YtgbnicokglpdbaaGreatDoorProg
import Derived.BigQuiet
import Derived.Deep.AppendLies
import Derived.Deep.DeepCutAuto
import Derived.Lib.Hide
import Derived.StillTailTactics
import Derived.WalkLawsBesides
import Derived.WalkSpells
namespace Go.Proofs.YtgbnicokglpdbaaGreatDoor
theorem zh{p:Prop}(h:p):Go.RowKit.Hid p:=h
section
open Go.RowKit
def Sl(w:World)(sz:Nat)(A:Option Addr)(n:Nat)(xs:List Value):Prop:=
 xs.length=n*sz/\(0<n->∃ b o,A=some ⟨b,o,none⟩/\b<w.heap.size/\∀ j u,xs[j]?=some u->w.cell? ⟨b,o+j,none⟩=some u)
section
variable{w w':World}{sz n:Nat}{A:Option Addr}{xs:List Value}
theorem Sl.nil(w:World)(sz:Nat)(A:Option Addr):Sl w sz A 0 []:=⟨by simp,λh=>absurd h (by omega)⟩
theorem Sl.keep(h:Sl w sz A n xs)(hk:∀ p:Addr,p.block<w.heap.size->w'.cell? p=w.cell? p)(hs:w.heap.size<=w'.heap.size):Sl w' sz A n xs:=
 ⟨h.1,λhn=>by
  obtain⟨b,o,e,hb,hc⟩:=h.2 hn
  exact⟨b,o,e,by omega,λj u hu=>(hk _ hb).trans (hc j u hu)⟩⟩
theorem Sl.below(h:Sl w sz A n xs)(hb:Below w.heap.size w w'):Sl w' sz A n xs:=h.keep (λ_ hp=>hb.cell hp) hb.size
theorem Sl.drew(h:Sl w sz A n xs):Sl w.drew sz A n xs:=h
theorem Sl.alloc(h:Sl w sz A n xs)(o:Obj):Sl (w.alloc o) sz A n xs:=h.keep (λp hp=>World.cell?_alloc_lt w o p (by omega)) (by simp)
theorem Sl.grown(h:Sl w sz A n xs){row:Option Nat}(hg:w.grownBy w' row)(aF:0<n->∀ a,A=some a->some a.block≠row):Sl w' sz A n xs:=
 ⟨h.1,λhn=>by
  obtain⟨b,o,e,hb,hc⟩:=h.2 hn
  exact⟨b,o,e,Nat.lt_of_lt_of_le hb hg.size,λj u hu=>(World.cell?_of_block (w:=w) (hg.block b hb (aF hn _ e))).trans (hc j u hu)⟩⟩
theorem Sl.setCell(h:Sl w sz A n xs){p:Addr}(aF:0<n->∀ a,A=some a->a.block≠p.block)(u:Value):Sl (w.setCell p u) sz A n xs:=
 ⟨h.1,λhn=>by
  obtain⟨b,o,e,hb,hc⟩:=h.2 hn
  exact⟨b,o,e,by simpa[World.setCell] using hb,λj v hv=>(World.cell?_of_block (w:=w) (Below.heap_setCell w p u b (aF hn _ e))).trans (hc j v hv)⟩⟩
theorem Sl.of_own{base:Nat}{e:TypeId}{c:Nat}(h:w.ownsRow base e sz (.slice A n c) n xs):Sl w sz A n xs:=by
 refine⟨h.1,λhn=>?_⟩
 obtain⟨g,cap,hv,_,bj⟩:=h.form hn
 have hA:A=some ⟨g,0,none⟩:=by injection hv
 subst hA
 refine⟨g,0,rfl,bj,λj u hu=>?_⟩
 have:=h.cells (g:=g) rfl j u hu
 have bg:(⟨g,0,none⟩:Addr).add j=⟨g,0+j,none⟩:=by unfold Addr.add;split<;>simp_all
 rwa [bg] at this
theorem dK{base:Nat}{e:TypeId}{v:Value}(h:w.ownsRow base e sz v n xs):∃ A c,v=.slice A n c/\n<=c/\c<=maxLen/\w.ownsRow base e sz (.slice A n c) n xs:=by
 rcases h.2 with⟨rfl,rfl⟩|⟨g,cap,cur,rfl,_,_,hn,hc,_⟩
 ·exact⟨none,0,rfl,Nat.le_refl _,by unfold maxLen;omega,h⟩
 exact⟨_,cap,rfl,hn,hc,h⟩
end
theorem q8{α:Type}{enc:α->List Value}{sz:Nat}(aa:∀ x,(enc x).length=sz):∀ (l:List α) (i j:Nat) (x:α),l[i]?=some x->j<sz->(l.flatMap enc)[i*sz+j]?=(enc x)[j]?:=by
 intro l
 induction l with
 |nil=>intro i j x h;simp at h
 |cons a r ih =>
  intro i j x h hj
  cases i with
  |zero =>
   simp at h;subst h
   rw[List.flatMap_cons,Nat.zero_mul,Nat.zero_add,List.getElem?_append_left (by rw[aa];exact hj)]
  |succ i =>
   rw[List.flatMap_cons,List.getElem?_append_right (by rw[aa,Nat.succ_mul];omega),aa,show (i+1)*sz+j-sz=i*sz+j by rw[Nat.succ_mul];omega]
   exact ih i j x (by simpa using h) hj
theorem bU{α:Type}{enc:α->List Value}{sz:Nat}(aa:∀ x,(enc x).length=sz):∀ (l:List α),(l.flatMap enc).length=l.length*sz:=by
 intro l
 induction l with
 |nil=>simp
 |cons a r ih=>rw[List.flatMap_cons,List.length_append,aa,ih,List.length_cons,Nat.succ_mul];omega
def ag{α:Type}(enc:α->List Value)(sz:Nat)(w:World)(A:Option Addr)(n:Nat)(l:List α):Prop:=n=l.length/\Sl w sz A n (l.flatMap enc)
theorem ag.at_{α:Type}{enc:α->List Value}{sz:Nat}(aa:∀ x,(enc x).length=sz){w:World}{A:Option Addr}{n k:Nat}{l:List α}(h:ag enc sz w A n l)(hk:k<n) :
 ∃ b o x,A=some ⟨b,o,none⟩/\b<w.heap.size/\l[k]?=some x/\∀ j u,(enc x)[j]?=some u->w.cell? ⟨b,o+(k*sz+j),none⟩=some u:=by
 obtain⟨hn,h1,h2⟩:=h
 obtain⟨b,o,hA,hb,hc⟩:=h2 (by omega)
 have hx:l[k]?=some (l[k]'(by omega)):=List.getElem?_eq_getElem (by omega)
 refine⟨b,o,_,hA,hb,hx,λj u hu=>hc _ u ?_⟩
 have hj:j<sz:=by
  rcases Nat.lt_or_ge j sz with h|h
  ·exact h
  rw[List.getElem?_eq_none (by rw[aa];exact h)] at hu;cases hu
 rw[q8 aa l k j _ hx hj];exact hu
section
variable{α:Type}{enc:α->List Value}{sz:Nat}{w w':World}{A:Option Addr}{n:Nat}{l:List α}
theorem ag.nil(w:World)(A:Option Addr):ag enc sz w A 0 []:=⟨rfl,Sl.nil _ _ _⟩
theorem ag.below(h:ag enc sz w A n l)(hb:Below w.heap.size w w'):ag enc sz w' A n l:=⟨h.1,h.2.below hb⟩
theorem ag.alloc(h:ag enc sz w A n l)(o:Obj):ag enc sz (w.alloc o) A n l:=⟨h.1,h.2.alloc o⟩
theorem ag.of_own{base:Nat}{e:TypeId}{c:Nat}(h:w.ownsRow base e sz (.slice A n c) n (l.flatMap enc))(hn:n=l.length):ag enc sz w A n l:=⟨hn,Sl.of_own h⟩
theorem ag.grown(h:ag enc sz w A n l){row:Option Nat}(hg:w.grownBy w' row)(aF:0<n->∀ a,A=some a->some a.block≠row):ag enc sz w' A n l:=⟨h.1,h.2.grown hg aF⟩
end
def ak(i:Int):List Value:=[.int .i64 i]
theorem jM(i:Int):(ak i).length=1:=rfl
theorem ag.at1{w:World}{A:Option Addr}{n k:Nat}{l:List Int}(h:ag ak 1 w A n l)(hk:k<n) :
 ∃ b o x,A=some ⟨b,o,none⟩/\b<w.heap.size/\l[k]?=some x/\w.cell? ⟨b,o+k,none⟩=some (.int .i64 x):=by
 obtain⟨b,o,x,hA,hb,hx,hc⟩:=h.at_ jM hk
 exact⟨b,o,x,hA,hb,hx,by simpa using hc 0 _ rfl⟩
def au(P:Program)(t e:TypeId)(sz bytes:Nat):Prop:=P.underlying t=some (.slice e)/\∃ i z,P.info? e=some i/\i.zero=some z/\i.size=sz/\i.bytes=bytes/\z.cells.size=sz/\0<sz
theorem au.of{P:Program}{t e:TypeId}{sz bytes:Nat}{z:Value}(ht:P.underlying t=some (.slice e))(h:(P.info? e).map (λi=>(i.zero,i.size,i.bytes))=some (some z,sz,bytes))(hz:z.cells.size=sz)(aa:0<sz):au P t e sz bytes:=by
 obtain⟨i0,hi,h0,h1,h2⟩:=info_parts h
 exact⟨ht,i0,z,hi,h0,h1,h2,hz,aa⟩
theorem pR{P:Program}(w:World)(base:Nat)(t ty e:TypeId)(i:TypeInfo)(size:Nat)(ht:P.underlying t=some (.slice e))(hi:P.info? e=some i)
 (v:Value) (n:Nat) (xs:List Value) (am:w.ownsRow base e size v n xs) (c:Nat):(Builtin.append_ #[t,t] ty #[v,.slice none 0 c]).run P w=.ok v w:=by
 rcases am.2 with⟨rfl,rfl⟩|⟨g,cap,cur,rfl,_,_,bS,_⟩
 ·simp[Builtin.append_,run_underlying ht,sizeOf,typeInfo,hi,Builtin.lenOf,Builtin.firstCells]
 simp[Builtin.append_,run_underlying ht,sizeOf,typeInfo,hi,Builtin.lenOf,Builtin.firstCells,bS,storeCells]
theorem AA{P:Program}(w:World){t e:TypeId}{sz bytes:Nat}(hE:au P t e sz bytes)(base:Nat)(ty:TypeId)
 (v:Value) (n:Nat) (xs:List Value) (am:w.ownsRow base e sz v n xs) (A:Option Addr) (m c:Nat) (news:List Value) (hr:Sl w sz A m news) (h1:∀ u∈news,u.oneCell'=true)
 (a0:n+m<=maxLen) (bc:(n+m)*bytes<=140737488355328) (a9:base<=w.heap.size) :
 ∃ A' c' w',(Builtin.append_ #[t,t] ty #[v,.slice A m c]).run P w=.ok (.slice A' (n+m) c') w'/\w'.ownsRow base e sz (.slice A' (n+m) c') (n+m) (xs++news)/\w.grownBy w' v.ownBlock/\
  ((Value.slice A' (n+m) c').ownBlock=v.ownBlock\/(Value.slice A' (n+m) c').ownBlock=some w.heap.size):=by
 obtain⟨ht,i,z,hi,hz,bq,bp,bt,aa⟩:=hE
 have key:∃ v' w',(Builtin.append_ #[t,t] ty #[v,.slice A m c]).run P w=.ok v' w'/\w'.ownsRow base e sz v' (n+m) (xs++news)/\w.grownBy w' v.ownBlock/\(v'.ownBlock=v.ownBlock\/v'.ownBlock=some w.heap.size):=by
  rcases Nat.eq_zero_or_pos m with h0|h0
  ·subst h0
   have hn:news=[]:=List.eq_nil_of_length_eq_zero (by simpa using hr.1)
   subst hn
   rcases A with _|ad
   ·exact⟨v,w,pR w base t ty e i sz ht hi v n xs am c,by simpa using am,World.grownBy.refl w _,.inl rfl⟩
   obtain⟨v',w',bf,h2,h3,_,h5⟩:=run_append_own_at (P:=P) w base t ty e i z sz bytes ht hi hz bq bp bt aa v n xs am ad 0 c [] (by simp) (by simp) h1 a0 bc a9
   exact⟨v',w',bf,h2,h3,h5⟩
  obtain⟨b,o,rfl,hb,hc⟩:=hr.2 h0
  obtain⟨v',w',bf,h2,h3,_,h5⟩:=run_append_own_at (P:=P) w base t ty e i z sz bytes ht hi hz bq bp bt aa v n xs am ⟨b,o,none⟩ m c news hr.1
   (λj u hu=>by
    have bg:(⟨b,o,none⟩:Addr).add j=⟨b,o+j,none⟩:=by unfold Addr.add;split<;>simp_all
    rw[bg];exact hc j u hu) h1 a0 bc a9
  exact⟨v',w',bf,h2,h3,h5⟩
 obtain⟨v',w',bf,h2,h3,h4⟩:=key
 obtain⟨A',c',rfl,_,_,b7⟩:=dK h2
 exact⟨A',c',w',bf,h2,h3,h4⟩
theorem Ed{P:Program}{w:World}{o:Oper}{a:Act}{K:Act->World->Prop}{Q:Exit->Act->World->Prop}(s x:Operand)(t:TypeId)
 (ho:o.op=.call { callee:=.builtin .append,args:=#[s,x],argTypes:=#[t,t] })
 {e:TypeId} {sz bytes:Nat} (hE:au P t e sz bytes) (base:Nat)
 (v:Value) (n:Nat) (xs:List Value) (hs:a.eval s=v) (am:w.ownsRow base e sz v n xs) (A:Option Addr) (m c:Nat) (news:List Value) (hx:a.eval x=.slice A m c) (hr:Sl w sz A m news) (h1:∀ u∈news,u.oneCell'=true)
 (a0:n+m<=maxLen) (bc:(n+m)*bytes<=140737488355328) (a9:base<=w.heap.size)
 (h:∀ A' c' w',w'.ownsRow base e sz (.slice A' (n+m) c') (n+m) (xs++news)->w.grownBy w' v.ownBlock->((Value.slice A' (n+m) c').ownBlock=v.ownBlock\/(Value.slice A' (n+m) c').ownBlock=some w.heap.size)->
  K (a.put o.dst (.slice A' (n+m) c')) w'):o.wp P a w K Q:=by
 obtain⟨A',c',w',bf,h2,h3,h4⟩:=AA (P:=P) w hE base o.type v n xs am A m c news hr h1 a0 bc a9
 unfold Oper.wp execOp
 simp only[ho,resolve,invoke,builtin,Sem.run_bind,Sem.run_pure,Result.andThen_ok,List.map_toArray,List.map_cons,List.map_nil,hs,hx,bf]
 exact h A' c' w' h2 h3 h4
theorem ax{P:Program}{w:World}{ops:Array Oper}{rest:List Oper}{o:Oper}{a:Act}{Q:Exit->Act->World->Prop}(bk:o.guard=none)(s x:Operand)(t:TypeId)
 (ho:o.op=.call { callee:=.builtin .append,args:=#[s,x],argTypes:=#[t,t] })
 {e:TypeId} {sz bytes:Nat} (hE:au P t e sz bytes) (base:Nat)
 (v:Value) (n:Nat) (xs:List Value) (hs:a.eval s=v) (am:w.ownsRow base e sz v n xs) (A:Option Addr) (m c:Nat) (news:List Value) (hx:a.eval x=.slice A m c) (hr:Sl w sz A m news) (h1:∀ u∈news,u.oneCell'=true)
 (a0:n+m<=maxLen) (bc:(n+m)*bytes<=140737488355328) (a9:base<=w.heap.size)
 (h:∀ A' c' w',w'.ownsRow base e sz (.slice A' (n+m) c') (n+m) (xs++news)->w.grownBy w' v.ownBlock->((Value.slice A' (n+m) c').ownBlock=v.ownBlock\/(Value.slice A' (n+m) c').ownBlock=some w.heap.size)->
  wpList P ops Q rest (a.put o.dst (.slice A' (n+m) c')) w'):wpList P ops Q (o :: rest) a w:=
 wpList_plain bk λ_ hK=>Ed s x t ho hE base v n xs hs am A m c news hx hr h1 a0 bc a9 λA' c' w' h2 h3 h4=>hK _ _ (h A' c' w' h2 h3 h4)
theorem Sl.new(w:World)(cs:Array Value)(e:TypeId)(sz n:Nat)(hn:cs.size=n*sz):Sl (w.alloc (.cells cs e)) sz (some ⟨w.heap.size,0,none⟩) n cs.toList:=by
 refine⟨by simpa using hn,λ_=>⟨_,0,rfl,by simp,λj u hu=>?_⟩⟩
 rw[Nat.zero_add,cell_of_row _ _ j cs e (0,0) (heap_alloc_new w _)]
 simpa using hu
theorem gW(w:World)(cs:Array Value)(e:TypeId)(sz n base:Nat)(hn:cs.size=n*sz)(hb:base<=w.heap.size)(hm:n<=maxLen):(w.alloc (.cells cs e)).ownsRow base e sz (.slice (some ⟨w.heap.size,0,none⟩) n n) n cs.toList:=
 ⟨by simpa using hn,.inr ⟨_,n,cs,rfl,hb,heap_alloc_new w _,Nat.le_refl _,hm,hn,by rw[List.take_of_length_le];simp[hn]⟩⟩
theorem pI{w:World}{b1 b2 s1 s2 n1 n2:Nat}{e1 e2:TypeId}{v1 v2:Value}{xs1 xs2:List Value}(h1:w.ownsRow b1 e1 s1 v1 n1 xs1)(h2:w.ownsRow b2 e2 s2 v2 n2 xs2)(aF:e1≠e2):v1.ownBlock=none\/v1.ownBlock≠v2.ownBlock:=by
 rcases h1.2 with⟨rfl,_⟩|⟨g1,c1,cur1,rfl,_,bw,_⟩
 ·exact .inl rfl
 rcases h2.2 with⟨rfl,_⟩|⟨g2,c2,cur2,rfl,_,bm,_⟩
 ·exact .inr (by simp[Value.ownBlock])
 refine .inr λh=>aF ?_
 have:g1=g2:=by simpa[Value.ownBlock] using h
 subst this
 rw[bw] at bm
 simp only[Option.some.injEq,Obj.cells.injEq] at bm
 exact bm.2.1
theorem aL{w w' w'':World}{B base e sz n:Nat}{v:Value}{xs:List Value}(hb:Below B w w')(ho:w'.ownsRow base e sz v n xs)(hB:B<=base)(hw:B<=w'.heap.size)(hg:w'.grownBy w'' v.ownBlock):Below B w w'':=
 hb.grown hg hw λk hk=>Nat.le_trans hB (ho.lt k hk).1
theorem ae{P:Program}{f:FuncId}{args:Array Value}{w:World}{Q:Ending->World->Prop}
 (h:∀ R:Ending->World->Prop,Hid (∀ e w',Q e w'->R e w')->Calls P f args w R):Calls P f args w Q:=h Q λ_ _ h=>h
theorem Az{k:IntKind}{a b:Int}(h:a=b):Ending.returned (.int k a)=.returned (.int k b):=by rw[h]
theorem rv{a b:Bool}(h:a=b):Ending.returned (.bool a)=.returned (.bool b):=by rw[h]
end
section
open Go.RowKit
theorem lM(r:List Int):r.flatMap ak=r.map (Value.int .i64):=by
 induction r with
 |nil=>rfl
 |cons a r ih=>rw[List.flatMap_cons,ih];rfl
theorem xV{w:World}{base g n:Nat}{e:TypeId}{xs:List Value}(h:w.ownsRow base e 1 (.slice (some ⟨g,0,none⟩) n n) n xs):w.heap[g]?=some (.cells xs.toArray e (0,0)):=by
 rcases h.2 with⟨h0,_⟩|⟨g',cap,cur,hv,_,hg,_,_,hs,ht⟩
 ·simp at h0
 simp only[Value.slice.injEq,Option.some.injEq,Addr.mk.injEq] at hv
 obtain⟨⟨rfl,_⟩,_,rfl⟩:=hv
 rw[hg,← ht,List.take_of_length_le (by simp[hs])]
theorem jB{P:Program}{w:World}{ops:Array Oper}{rest:List Oper}{o:Oper}{a:Act}{Q:Exit->Act->World->Prop}
 (hg:o.guard=none) (l c:Operand) (t:TypeId) (b5:o.op=Op.makeSlice t l c) (e:TypeId)
 (ht:P.underlying t=some (.slice e)) (hi:(P.info? e).map (λi=>(i.zero,i.size,i.bytes))=some (some (.int .i64 0),1,8))
 (L:Int) (n:Nat) (hl:a.eval l=.int .i64 L) (hc:a.eval c=.int .i64 L) (hL:L=(n:Int)) (b2:n<=1000000000)
 (hK:∀ w',w'.heap[w.heap.size]?=some (.cells (List.replicate n (Value.int .i64 0)).toArray e (0,0))->w.grownBy w' none->wpList P ops Q rest (a.put o.dst (.slice (some ⟨w.heap.size,0,none⟩) n n)) w') :
 wpList P ops Q (o :: rest) a w:=by
 obtain⟨i0,bE,z0,z1,z2⟩:=info_parts hi
 refine wpList_make_full w hg l c t b5 w.heap.size e i0 _ 1 ht bE z0 z1 .i64 .i64 L L n hl hc hL hL (by rw[z2];omega) (by unfold maxLen;omega) (Nat.le_refl _) λw' ho bv=>hK w' ?_ bv
 have h:=xV ho
 rw[h]
 congr 2
 simp only[Nat.mul_one]
 rw[show (Value.int IntKind.i64 0).cells=#[.int .i64 0] from rfl,toList_madeCells_one]
def d8(w:World)(A:Option Addr)(n:Nat)(rows:List (List Int)):Prop:=
 n=rows.length/\(0<n->∃ b o,A=some ⟨b,o,none⟩/\b<w.heap.size/\∀ i r,rows[i]?=some r->∃ Ai ci,w.cell? ⟨b,o+i,none⟩=some (.slice Ai r.length ci)/\ag ak 1 w Ai r.length r)
theorem d8.below{w w':World}{A:Option Addr}{n:Nat}{rows:List (List Int)}(h:d8 w A n rows)(hb:Below w.heap.size w w'):d8 w' A n rows:=
 ⟨h.1,λhn=>by
  obtain⟨b,o,hA,bj,hc⟩:=h.2 hn
  exact⟨b,o,hA,Nat.lt_of_lt_of_le bj hb.size,λi r hr=>by
   obtain⟨Ai,ci,h1,h2⟩:=hc i r hr
   exact⟨Ai,ci,(hb.cell bj).trans h1,h2.below hb⟩⟩⟩
end
section
open Go.RowKit
theorem ab(w:World)(o:Obj):Below w.heap.size w (w.alloc o):=(Below.refl _ _).alloc (Nat.le_refl _) _
theorem uF(w:World)(o o':Obj):Below w.heap.size w ((w.alloc o).alloc o'):=(ab w o).trans ((ab _ o').mono (by simp))
theorem Sl.newAt(w:World)(cs:Array Value)(e:TypeId)(sz n:Nat)(hn:cs.size=n*sz){b:Nat}(hb:b=w.heap.size):Sl (w.alloc (.cells cs e)) sz (some ⟨b,0,none⟩) n cs.toList:=by
 subst hb;exact Sl.new w cs e sz n hn
theorem iU(w:World)(cs:Array Value)(e:TypeId)(sz n base:Nat)(hn:cs.size=n*sz)(hb:base<=w.heap.size)(hm:n<=maxLen){b:Nat}(bu:b=w.heap.size):(w.alloc (.cells cs e)).ownsRow base e sz (.slice (some ⟨b,0,none⟩) n n) n cs.toList:=by
 subst bu;exact gW w cs e sz n base hn hb hm
theorem ap{W:World}{b:Nat}{t:TypeId}{u0 u1:Value}(h:W.heap[b]?=some (.cells #[u0,u1] t (0,0))) :
 W.cell? ⟨b,0,none⟩=some u0/\W.cell? ⟨b,1,none⟩=some u1/\(∀ j,W.frozen? ⟨b,j,none⟩=false):=
 ⟨by rw[cell_of_row _ _ 0 _ _ (0,0) h];rfl,by rw[cell_of_row _ _ 1 _ _ (0,0) h];rfl,λj=>by simp[World.frozen?,h]⟩
theorem rY{W:World}{b:Nat}{t:TypeId}{u0 u1 u2:Value}(h:W.heap[b]?=some (.cells #[u0,u1,u2] t (0,0))) :
 W.cell? ⟨b,0,none⟩=some u0/\W.cell? ⟨b,1,none⟩=some u1/\W.cell? ⟨b,2,none⟩=some u2/\(∀ j,W.frozen? ⟨b,j,none⟩=false):=
 ⟨by rw[cell_of_row _ _ 0 _ _ (0,0) h];rfl,by rw[cell_of_row _ _ 1 _ _ (0,0) h];rfl,by rw[cell_of_row _ _ 2 _ _ (0,0) h];rfl,λj=>by simp[World.frozen?,h]⟩
theorem an{W:World}{b:Nat}{t:TypeId}{u0 u1 u2 u3:Value}(h:W.heap[b]?=some (.cells #[u0,u1,u2,u3] t (0,0))) :
 W.cell? ⟨b,0,none⟩=some u0/\W.cell? ⟨b,1,none⟩=some u1/\W.cell? ⟨b,2,none⟩=some u2/\W.cell? ⟨b,3,none⟩=some u3/\(∀ j,W.frozen? ⟨b,j,none⟩=false):=
 ⟨by rw[cell_of_row _ _ 0 _ _ (0,0) h];rfl,by rw[cell_of_row _ _ 1 _ _ (0,0) h];rfl,by rw[cell_of_row _ _ 2 _ _ (0,0) h];rfl,by rw[cell_of_row _ _ 3 _ _ (0,0) h];rfl,λj=>by simp[World.frozen?,h]⟩
theorem lH(l:List Int):∀ u∈l.flatMap ak,u.oneCell'=true:=by
 intro u hu
 obtain⟨x,_,hx⟩:=List.mem_flatMap.1 hu
 simp only[ak,List.mem_cons,List.not_mem_nil,or_false] at hx
 rcases hx with rfl
 rfl
end
section
open Go.RowKit
theorem ai{W W1:World}{base e sz n:Nat}{v:Value}{xs:List Value}(h:W.ownsRow base e sz v n xs)(hb:Below W.heap.size W W1):W1.ownsRow base e sz v n xs:=
 h.kept (row:=none) ⟨hb.os,hb.tape,hb.output,hb.size,λk hk _=>hb.block k hk⟩ (by cases v.ownBlock<;>simp)
def kM(W:World)(base:Nat)(eo ei:TypeId)(v:Value)(L:Nat)(rows:List (List Int))(outer:List Value):Prop:=
 L=rows.length/\W.ownsRow base eo 1 v L outer/\∀ (i:Nat) (r:List Int),rows[i]?=some r->∃ Ai ci,outer[i]?=some (.slice Ai r.length ci)/\r.length<=ci/\W.ownsRow base ei 1 (.slice Ai r.length ci) r.length (r.flatMap ak)
def Ej(W:World)(base:Nat)(eo ei:TypeId)(v:Value)(L:Nat)(rows:List (List Int)):Prop:=∃ outer,kM W base eo ei v L rows outer
section
variable{W W' W1 W2:World}{base L n:Nat}{eo ei:TypeId}{v v':Value}{rows:List (List Int)}{outer:List Value}
theorem kM.below(t:kM W base eo ei v L rows outer)(hb:Below W.heap.size W W'):kM W' base eo ei v L rows outer:=by
 obtain⟨h1,h2,h3⟩:=t
 refine⟨h1,ai h2 hb,λi r hr=>?_⟩
 obtain⟨Ai,ci,a,b,c⟩:=h3 i r hr
 exact⟨Ai,ci,a,b,ai c hb⟩
theorem kM.own(t:kM W base eo ei v L rows outer):W.ownsRow base eo 1 v L outer:=t.2.1
theorem kM.start(h:W.ownsRow base eo 1 v 0 []):kM W base eo ei v 0 [] []:=⟨rfl,h,λi r hr=>by simp at hr⟩
theorem kM.snoc(t:kM W base eo ei v L rows outer)(aF:eo≠ei){r:List Int}{Ar:Option Addr}{cr:Nat}(hn:r.length=n)(hr:W.ownsRow base ei 1 (.slice Ar n cr) n (r.flatMap ak))(b6:n<=cr)
 (ho:W2.ownsRow base eo 1 v' (L+1) (outer++[.slice Ar n cr])) (hg:W.grownBy W2 v.ownBlock):kM W2 base eo ei v' (L+1) (rows++[r]) (outer++[.slice Ar n cr]):=by
 subst hn
 obtain⟨h1,h2,h3⟩:=t
 have bI:outer.length=L:=by simpa using h2.1
 refine⟨by simp[h1],ho,λi r' bi=>?_⟩
 by_cases hi:i<rows.length
 ·rw[List.getElem?_append_left hi] at bi
  obtain⟨Ai,ci,a,b,c⟩:=h3 i r' bi
  refine⟨Ai,ci,by rw[List.getElem?_append_left (by omega)];exact a,b,c.kept hg (pI c h2 (λe=>aF e.symm))⟩
 have bD:i=rows.length:=by
  have:=(List.getElem?_eq_some_iff.1 bi).1
  simp at this;omega
 subst bD
 simp at bi
 subst bi
 refine⟨Ar,cr,by rw[List.getElem?_append_right (by omega),bI,← h1];simp,b6,hr.kept hg (pI hr h2 (λe=>aF e.symm))⟩
theorem Ej.slr{A:Option Addr}{c:Nat}(t:Ej W base eo ei (.slice A L c) L rows):d8 W A L rows:=by
 obtain⟨outer,h1,h2,h3⟩:=t
 refine⟨h1,λhn=>?_⟩
 obtain⟨b,c',hv,_,hb⟩:=h2.form hn
 have hA:A=some ⟨b,0,none⟩:=by injection hv
 subst hA
 refine⟨b,0,rfl,hb,λi r hr=>?_⟩
 obtain⟨Ai,ci,a,_,cc⟩:=h3 i r hr
 refine⟨Ai,ci,?_,ag.of_own cc rfl⟩
 rw[Nat.zero_add]
 have hc:=h2.cells (g:=b) rfl i _ a
 have bg:(⟨b,0,none⟩:Addr).add i=⟨b,i,none⟩:=by unfold Addr.add;split<;>simp_all
 rwa [bg] at hc
theorem d8.at_{A:Option Addr}{n k:Nat}(h:d8 W A n rows)(hk:k<n):∃ b o r Ai ci,A=some ⟨b,o,none⟩/\b<W.heap.size/\rows[k]?=some r/\W.cell? ⟨b,o+k,none⟩=some (.slice Ai r.length ci)/\ag ak 1 W Ai r.length r:=by
 obtain⟨h1,h2⟩:=h
 obtain⟨b,o,hA,hb,hc⟩:=h2 (by omega)
 have hr:rows[k]?=some (rows[k]'(by omega)):=List.getElem?_eq_getElem (by omega)
 obtain⟨Ai,ci,a1,a2⟩:=hc k _ hr
 exact⟨b,o,_,Ai,ci,hA,hb,hr,a1,a2⟩
end
end
section
open Go.RowKit
theorem oU{W:World}{base e size n:Nat}{v:Value}{xs:List Value}(h:W.ownsRow base e size v n xs):W.drew.ownsRow base e size v n xs:=h
theorem er{P:Program}{w:World}{ops:Array Oper}{o:Oper}{a:Act}{K:Act->World->Prop}{Q:Exit->Act->World->Prop}{E:Prop}(bk:o.guard=none)(s x:Operand)(t:TypeId)
 (ho:o.op=.call { callee:=.builtin .append,args:=#[s,x],argTypes:=#[t,t] })
 {e:TypeId} {sz bytes:Nat} (hE:au P t e sz bytes) (base:Nat)
 (v:Value) (n:Nat) (xs:List Value) (hs:a.eval s=v) (am:w.ownsRow base e sz v n xs) (A:Option Addr) (m c:Nat) (news:List Value) (hx:a.eval x=.slice A m c) (hr:Sl w sz A m news) (h1:∀ u∈news,u.oneCell'=true)
 (a0:n+m<=maxLen) (bc:(n+m)*bytes<=140737488355328) (a9:base<=w.heap.size)
 (h:∀ A' c' w',w'.ownsRow base e sz (.slice A' (n+m) c') (n+m) (xs++news)->w.grownBy w' v.ownBlock->((Value.slice A' (n+m) c').ownBlock=v.ownBlock\/(Value.slice A' (n+m) c').ownBlock=some w.heap.size)->
  K (a.put o.dst (.slice A' (n+m) c')) w'):if Region.wanted o (yielded ops a.tmps)=true then Oper.wp P o a w K Q else E:=by
 have hw:Region.wanted o (yielded ops a.tmps)=true:=by simp[Region.wanted,bk]
 rw[if_pos hw]
 exact Ed s x t ho hE base v n xs hs am A m c news hx hr h1 a0 bc a9 h
end
section
open Go.RowKit
def Qt(w w':World):Prop:=∃ q,w'=w.drewN q
theorem Qt.refl(w:World):Qt w w:=⟨0,(World.drewN_zero (w:=w)).symm⟩
theorem Qt.step{w w':World}(h:Qt w w')(q:Nat):Qt w (w'.drewN q):=by
 obtain⟨a,rfl⟩:=h
 exact⟨a+q,World.drewN_drewN _ _ _⟩
theorem Qt.below{w w':World}(hq:Qt w w'):Below w.heap.size w w':=by
 obtain⟨a,rfl⟩:=hq;exact⟨rfl,rfl,rfl,Nat.le_refl _,λ_ _=>rfl⟩
theorem ag.drewN{α:Type}{enc:α->List Value}{sz:Nat}{w:World}{A:Option Addr}{n:Nat}{l:List α}(h:ag enc sz w A n l)(q:Nat):ag enc sz (w.drewN q) A n l:=h
end
end Go.Proofs.YtgbnicokglpdbaaGreatDoor
