/- Part 24. -/
import Derived.Test.YtglbdppmnchoeaaGreatZ23
import Derived.WalkKit
import Derived.Laws.IdiomRangeMap
namespace Go.F.Gv
open Go.Proofs Go.Sort
abbrev Sp2:=Int×Int
def kd (p:Sp2):D:=.agg [.int .i64 p.1,.int .i64 p.2]
def kv (p:Sp2):Value:=.agg #[.int .i64 p.1,.int .i64 p.2]
theorem tN {p q:Sp2}(h:kv p=kv q):p=q:=by
 unfold kv at h;grind
theorem Un {d:D}(h:isSp d=true):∃p,d=kd p:=by
 unfold isSp at h;split at h
 .rename_i a b;exact⟨(a,b),rfl⟩
 grind
theorem all_kd {l:Hm}(h:l.all isSp=true):∃ps:List Sp2,l=ps.map kd:=by
 induction l with
 |nil=>simp
 |cons x l a=>
  rw[xl,zJ]at h;obtain⟨p,rfl⟩:=Un h.1;obtain⟨ps,rfl⟩:=a h.2;exact⟨p::ps,rfl⟩
theorem eqD_kd (p:Sp2):eqD (kd p) (kd p)=true:=by simp[kd,eqD,eqL]
theorem Ot:∀{a vs:Hm},na a=some vs->∃R:List (List Sp2),a=R.map (fun l=> .lst (l.map kd))/\vs=(R.flatMap _root_.id).map kd
 |[],vs,h=>by cases h;simp
 |x::a,vs,h=>by
  unfold na at h;split at h
  grind
  .rename_i l r b;cases b;split at h
   .rename_i c
    cases hr:na a with
    |none=>grind
    |some us=>
     rw[hr]at h;cases h;obtain⟨R,rfl,rfl⟩:=Ot hr;obtain⟨ps,rfl⟩:=all_kd c;exact⟨ps::R,rfl,by simp⟩
   grind
  grind
theorem Mq:∀ps:List Sp2,∃us:List Sp2,pE (ps.map kd)=us.map kd/\us.Nodup/\us.length<=ps.length/\∀p,p∈us↔p∈ps
 |[]=>⟨[],rfl,wX,zD _,fun _=>Iff.rfl⟩
 |p::ps=>by
  obtain⟨us,h1,a,c,h3⟩:=Mq ps
  have b:((ps.map kd).any (eqD (kd p))=true)↔p∈ps:=by
   grind[eqD_eq,kd,eqD_kd]
  rw[zg,pE,h1];by_cases h:p∈ps
  grind
  .rw[vd (fun k=>h (b.1 k))];refine⟨p::us,rfl,wJ.2 ⟨fun k=>h ((h3 p).1 k),a⟩,by grind,fun q=>?_⟩;grind
theorem Fi {α:Type} [DecidableEq α]:∀{l m:List α},l.Nodup->m.Nodup->(∀x,x∈l↔x∈m)->l.Perm m:=fun h1 a h=>(List.perm_ext_iff_of_nodup h1 a).2 fun x=>h x
theorem KG {c:Pure}{b:FuncId}{d:D}:∀{us:List Sp2} {f:Hm},ik c b d (us.map kd)=some f->
 ∃q:Sp2->Bool,f=(us.filter fun p=>!q p).map kd/\∀p∈us,c b [d,kd p]=some (.bool (q p))
 |[],f,h=>by cases h;simp
 |p::us,f,h=>by
  have k:∀a,ik c b d (us.map kd)=some a->∃q:Sp2->Bool,a=(us.filter fun p=>!q p).map kd/\∀p∈us,c b [d,kd p]=some (.bool (q p)):=fun a h'=>KG h'
  have key:∀t:Bool,c b [d,kd p]=some (.bool t)->∀a,ik c b d (us.map kd)=some a->∃q:Sp2->Bool,q p=t/\a=(us.filter fun p=>!q p).map kd/\∀j∈p::us,c b [d,kd j]=some (.bool (q j)):=fun t m a h'=>by
   obtain⟨q,h1,g⟩:=k a h';refine⟨fun x=>if x=p then t else q x,ve rfl,?_,fun x n=>?_⟩;grind[List.filter_congr];grind
  rw[zg]at h;unfold ik at h;split at h
  .rename_i r h1 g;obtain⟨q,e,l,i⟩:=key true h1 _ g;refine⟨q,?_,i⟩;grind
  .rename_i r h1 g;obtain⟨q,e,l,i⟩:=key false h1 _ g;refine⟨q,?_,i⟩;grind
  grind
structure MapS (w:World)(bm:Nat)(ks:List Sp2):Prop where
 nd:ks.Nodup
 ex:∃es clock,w.heap[bm]?=some (.map es clock)/\es.toList.map (·.key)=ks.map kv/\(∀e∈es.toList,e.born<clock)/\(es.toList.map (·.born)).Nodup
def ef (a:List Sp2)(p:Sp2):List Sp2:=if p∈a then a else a++[p]
theorem U4 {a:List Sp2}{p q:Sp2}:q∈ef a p↔q∈a\/q=p:=by
 grind[ef]
end Go.F.Gv

namespace Go.F.Gv
open Go.Proofs Go.Sort
set_option maxRecDepth 100000
theorem deep85:(mG Tryz.prog 85).map (fun a=>(a.length,a.all fun f=>ie Tryz.prog f (.int .i64 0)))=some (2,true):=by kernel_rfl
theorem fs85:∃f g,mG Tryz.prog 85=some [f,g]/\∀n,ie Tryz.prog f (.int .i64 n)=true/\ie Tryz.prog g (.int .i64 n)=true:=by
 have h:=deep85
 cases a:mG Tryz.prog 85 with
 |none=>grind
 |some b=>
  rw[a]at h;simp only[xR,zV,Prod.mk.injEq]at h
  match b,h with
  |[f,g],h=>
   rw[xl,xl,zJ,zJ]at h;exact⟨f,g,rfl,fun n=>⟨h.2.1,h.2.2.1⟩⟩
theorem Vp (p q:Sp2):m5 Tryz.prog 85 (kd p) (kd q)=some (decide (p=q)):=by
 obtain⟨f,g,h1,h⟩:=fs85;unfold m5 kd;simp only[equal,h1];obtain⟨a,b⟩:=p;obtain⟨c,d⟩:=q;simp[dh,(h _).1,(h _).2,iq];by_cases i:a=c
 .subst i;by_cases j:b=d
  grind
  .have e:(b==d)=false:=by grind
   simp[j,e]
 have e:(a==c)=false:=by grind
 simp[i,e]
theorem XY (p:Sp2):fP Tryz.prog 85 (kd p)=true:=by
 obtain⟨f,g,h1,_⟩:=fs85;unfold fP kd;split
 rfl
 .rename_i l _ e;cases e;rw[h1];rfl
 simp_all
theorem FL (p:Sp2):∀(a:List Sp2) (i:Nat),(p∈a->∃j,j<a.length/\findKey Tryz.prog 85 (kd p) (a.map kd) i=some (some (i+j)))/\(p∉a->findKey Tryz.prog 85 (kd p) (a.map kd) i=some none)
 |[],i=>⟨fun h=>(by grind),fun _=>rfl⟩
 |q::a,i=>by
  rw[zg,findKey,Vp];by_cases e:p=q
  simp_all
  .rw[yS e];obtain⟨h1,b⟩:=FL p a (i+1);refine⟨fun h=>?_,fun h=>b fun k=>h (zG _ k)⟩;obtain⟨j,h3,c⟩:=h1 ((zP.1 h).resolve_left e);exact⟨j+1,by grind,by grind⟩
theorem Rg {w:World}{c:Nat}{b:List Sp2}(M:MapS w c b)(p:Sp2):
 ∃o,(Instr.mapUpdate 318 (.map (some c)) (kv p) (.bool true)).run Tryz.prog w=.ok () {w with heap:=w.heap.setIfInBounds c o}/\MapS {w with heap:=w.heap.setIfInBounds c o} c (ef b p):=by
 obtain⟨z,es,a,s,A,D,E⟩:=M;have B:c<w.heap.size:=(zS.1 s).1;have F:Tryz.prog.underlying 318=some (.map 85 4):=Tryz.underlying318;have d:=XY p
 have C:b.length=es.size:=by
  have:=zX List.length A;grind
 have t:(b.map kd).length=es.size:=by grind
 have u:∀j (_:j<(b.map kd).length) (_:j<es.size),gf (b.map kd)[j]=true/\es[j].key=bM (b.map kd)[j]:=fun j h1 n=>by
  have v:(es.toList.map (·.key))[j]'(by grind)=(b.map kv)[j]'(by grind):=by grind
  rw[y9,y9,wH]at v;rw[y9]
  trivial
 have f:(getObj c).run Tryz.prog w=.ok (.map es a) w:=by simp[getObj,Sem.run,s]
 have g:∀o:Obj,(setObj c o).run Tryz.prog w=.ok () {w with heap:=w.heap.setIfInBounds c o}:=fun o=>by simp[setObj,Sem.run,s]
 have k:∀o:Obj,({w with heap:=w.heap.setIfInBounds c o}:World).heap[c]?=some o:=fun o=>by grind
 have l:kv p=bM (kd p):=rfl;obtain⟨f1,f2⟩:=FL p b 0;by_cases q:p∈b
 .obtain⟨j,G,r⟩:=f1 q;rw[zC]at r;obtain⟨o,n,h1,rfl,m⟩:=run_findKey (w:=w) d t u r;refine⟨.map (es.modify j fun e=>{e with key:=bM (kd p),val:=.bool true}) a,?_,?_⟩
  .have h:(Instr.keyThatStays (((es[j]?).map (·.key)).getD (bM (kd p))) (bM (kd p))).run Tryz.prog w=.ok (bM (kd p)) w:=by
    rw[yC h1,xR,wC,<-m,Instr.keyThatStays,ve (Il (oV d))];rfl
   rw[l];simp[Instr.mapUpdate,f,qx d,n,h,g]
  have x:ef b p=b:=ve q;rw[x]
  have v:(es.modify j fun e=>{e with key:=bM (kd p),val:=.bool true}).toList.map (·.key)=es.toList.map (·.key):=List.ext_getElem? fun i=>by
   grind
  have H:(es.modify j fun e=>{e with key:=bM (kd p),val:=.bool true}).toList.map (·.born)=es.toList.map (·.born):=List.ext_getElem? fun i=>by
   grind
  refine⟨z,_,_,k _,by grind,fun e y=>?_,by grind⟩;have:e.born∈(es.modify j fun e=>{e with key:=bM (kd p),val:=.bool true}).toList.map (·.born):=zy.2 ⟨e,y,rfl⟩;grind
 have r:=f2 q;obtain⟨o,n,rfl⟩:=run_findKey (w:=w) d t u r;refine⟨.map (es.push {key:=bM (kd p),val:=.bool true,born:=a}) (a+1),?_,?_⟩
 .rw[l];simp[Instr.mapUpdate,f,qx d,n,g]
 have x:ef b p=b++[p]:=vd q;refine⟨?_,_,_,k _,?_,fun e y=>?_,?_⟩;grind;grind;grind;grind
end Go.F.Gv

namespace Go.F.Gv
open Go.Proofs Go.Sort
variable {P:Program}{w:World}{bm it clock:Nat}{es:Array MapEntry}{seen:Array Nat}
theorem Ux (m:w.heap[bm]?=some (.map es clock))(hi:w.heap[it]?=some (.mapIter (some bm) clock seen clock))(c:∀x∈es.toList,x.born<clock):
 ((∀e∈es.toList,seen.contains e.born=true)/\∀ty,(Instr.next (.pointer (some ⟨it,0,none⟩)) false ty).run P w=.ok (.tuple #[.bool false]) w)\/
 ∃e∈es.toList,seen.contains e.born=false/\∃n,∀ty,(Instr.next (.pointer (some ⟨it,0,none⟩)) false ty).run P w=
  .ok (.tuple #[.bool true,e.key,e.val]) {w with heap:=w.heap.setIfInBounds it (.mapIter (some bm) clock (seen.push e.born) clock),drawn:=w.drawn+n}:=by
 simp only[Instr.next,getObj,Sem.run_bind,Sem.run,hi,m,Result.andThen,next_test_false seen es clock clock c (zD _)]
 have a:∀x∈(Array.filter (fun e=>!seen.contains e.born) es).toList,x∈es.toList/\seen.contains x.born=false:=fun x o=>by
  grind
 have b:(Array.filter (fun e=>!seen.contains e.born) es)= #[]->∀e∈es.toList,seen.contains e.born=true:=fun h e r=>by
  grind
 generalize Array.filter (fun e=>!seen.contains e.born) es=L at a b⊢
 have p:L.filter (fun x=>decide (x.born<clock))=L:=Array.filter_eq_self.2 fun x o=>by
  grind
 have q:L.filter (fun x=>decide (x.born>=clock))= #[]:=by
  simp_all
 simp only[p,q];by_cases h0:L.size=0
 .left;have:L= #[]:=Array.eq_empty_of_size_eq_zero h0;subst this;refine⟨b rfl,fun ty=>?_⟩;simp[choose,Sem.run,Question.forced]
 right
 have f:∃(j n:Nat),j<L.size/\(choose (Question.mapNext L.size)).run P w=.ok j {w with drawn:=w.drawn+n}:=by
  by_cases i:L.size<=1
  .exact⟨0,0,by omega,by simp[choose,Sem.run,Question.forced,i]⟩
  exact⟨_,1,zI _ (by omega),by
   simp[Question.forced,i]
   rfl⟩
 obtain⟨j,n,s,k⟩:=f;have d:=a L[j] (by simp);refine⟨L[j],d.1,d.2,n,fun ty=>?_⟩
 have l:∀g:Obj,(setObj it g).run P {w with drawn:=w.drawn+n}=.ok () {w with heap:=w.heap.setIfInBounds it g,drawn:=w.drawn+n}:=fun g=>by
  simp[setObj,Sem.run,hi]
 simp_all
theorem Ru {e:MapEntry}(a:w.heap[bm]?=some (.map es clock))(hi:w.heap[it]?=some (.mapIter (some bm) clock (seen.push e.born) clock))(b:e∈es.toList)(c:(es.toList.map (·.born)).Nodup):
 (Instr.entry (.pointer (some ⟨it,0,none⟩))).run P w=.ok (.tuple #[e.key,e.val]) w:=by
 have d:es.find? (·.born==e.born)=some e:=by rw[<-Array.find?_toList];exact find_born e es.toList c b
 simp only[Instr.entry,getObj,Sem.run_bind,Sem.run,hi,a,Result.andThen,Array.back?_push,bne_self_eq_false,d];rfl
theorem Rj {t k e:TypeId}(a:P.underlying t=some (.map k e))(b:w.heap[bm]?=some (.map es clock)):
 (Instr.range t (.map (some bm))).run P w=.ok (.pointer (some ⟨w.heap.size,0,none⟩)) (w.alloc (.mapIter (some bm) clock #[] clock)):=run_range_map w t k e bm es clock a b
end Go.F.Gv

namespace Go.F.Gv
open Go.Proofs Go.Sort
set_option maxRecDepth 100000
def cv (l:List Sp2):List Value:=l.flatMap fun p=>[.int .i64 p.1,.int .i64 p.2]
theorem EU (l:List Sp2):(cv l).length=l.length*2:=by
 induction l with
 |nil=>rfl
 |cons p l a=>grind[cv]
theorem LN (l:List Sp2)(p:Sp2):cv (l++[p])=cv l++[.int .i64 p.1,.int .i64 p.2]:=by simp[cv]
structure LstS (B0:Nat)(W:World)(v:Value)(l:List Sp2):Prop where
 ex:(l=[]/\v=.slice none 0 0)\/∃bl cap C t rest,B0<=bl/\v=.slice (some ⟨bl,0,none⟩) l.length cap/\W.heap[bl]?=some (.cells C t (0,0))/\C.toList=cv l++rest/\l.length<=cap/\cap*2<=C.size
theorem LstS.keep {a:Nat}{W b:World}{v:Value}{l:List Sp2}(h:LstS a W v l)(c:∀k o,a<=k->W.heap[k]?=some o->b.heap[k]?=some o):LstS a b v l:=by
 rcases h.ex with e|⟨bl,cap,C,t,rest,h1,d,h3,f⟩
 .exact⟨.inl e⟩
 exact⟨.inr ⟨bl,cap,C,t,rest,h1,d,c _ _ h1 h3,f⟩⟩
theorem info85:(Tryz.prog.info? 85).map (fun i=>(i.zero,i.size,i.bytes))=some (some (.agg #[.int .i64 0,.int .i64 0]),2,16):=by rfl
theorem Xe {n:Nat}{W:World}{v:Value}{l:List Sp2}(L:LstS n W v l)(G:n<=W.heap.size)(p:Sp2)(H:l.length<=1000000){o:Nat}{t0:TypeId}{f0:Nat×Nat}
 (M:W.heap[o]?=some (.cells #[.int .i64 p.1,.int .i64 p.2] t0 f0)) (ty:TypeId):
 ∃q b,(Builtin.append_ #[71,71] ty #[v,.slice (some ⟨o,0,none⟩) 1 1]).run Tryz.prog W=.ok q b/\LstS n b q (l++[p])/\Below n W b:=by
 have y:Tryz.prog.underlying 71=some (.slice 85):=Tryz.underlying71
 obtain⟨i,hi,r⟩:∃i,Tryz.prog.info? 85=some i/\(i.zero,i.size,i.bytes)=(some (.agg #[.int .i64 0,.int .i64 0]),2,16):=by
  have h:=info85;simp_all
 simp at r;obtain⟨N,f,O⟩:=r
 have g:∀(b:World),b.heap=W.heap->∀j u,[Value.int .i64 p.1,.int .i64 p.2][j]?=some u->b.cell? (Addr.add ⟨o,0,none⟩ j)=some u:=fun b z j u Q=>by
  rw[dW,zC,cell?_row (by rw[z];omega)];grind
 have S:Src Tryz.prog W 71 85 (.slice (some ⟨o,0,none⟩) 1 1) 1 [.int .i64 p.1,.int .i64 p.2]:=⟨i,_,hi,y,.inl ⟨.inl ⟨85,rfl⟩,fun b z=>⟨rfl,by
  rw[f];exact run_firstCells_some b 2 1 ⟨o,0,none⟩ 1 1 _ rfl (g b z)⟩⟩⟩
 have s:∀u∈[Value.int .i64 p.1,.int .i64 p.2],u.oneCell'=true:=fun u I=>by
  simp at I;rcases I with rfl|rfl<;>rfl
 have J:aK=1099511627776:=rfl
 have c:∀(base:Option Addr) (cap:Nat),l.length<=cap->cap<l.length+1->(Builtin.firstCells i.size l.length (.slice base l.length cap)).run Tryz.prog W.drew=.ok (cv l).toArray W.drew->
  ∃q b,(Builtin.append_ #[71,71] ty #[.slice base l.length cap,.slice (some ⟨o,0,none⟩) 1 1]).run Tryz.prog W=.ok q b/\LstS n b q (l++[p])/\Below n W b:=fun base cap h1 R w=>by
  have d:=Bm (P:=Tryz.prog) (ty:=ty) (base:=base) y hi N (by omega) S h1 R (by grind) w;have e:=grownCap_ge W (l.length+1) cap 85;refine⟨_,_,d,⟨.inr ⟨W.heap.size,grownCap W (l.length+1) cap 85,_,85,_,G,by simp,heap_alloc_new W.drew _,by rw[LN],by grind,?_⟩⟩,?_⟩
  .simp only[xV,zL,yy,size_zeroCells,EU];show _<=l.length*2+2+(_-_) *2;omega
  exact ud G rfl rfl rfl rfl
 rcases L.ex with⟨rfl,rfl⟩ |⟨bl,cap,C,t,rest,A,rfl,B,D,e,E⟩
 .exact c none 0 (zD _) (by simp) (by rfl)
 by_cases m:l.length+1<=cap
 .have K:l.length*2+[Value.int .i64 p.1,.int .i64 p.2].length<=C.size:=by
   grind
  have T:=run_storeCells_at Tryz.prog bl (l.length*2) t [.int .i64 p.1,.int .i64 p.2] 0 C W B (by omega) s
  have d:=AP (P:=Tryz.prog) (ty:=ty) (base:=some ⟨bl,0,none⟩) (w':=W.setRow bl (spl C.toList (l.length*2) [.int .i64 p.1,.int .i64 p.2]).toArray) y hi (by omega) S (sLen:=l.length) (sCap:=cap) m
   (fun a U=>by cases U;rw[dW,f,zC];trivial) (fun V=>by grind)
  have F:=setRow_heap W bl C (spl C.toList (l.length*2) [.int .i64 p.1,.int .i64 p.2]).toArray t (0,0) B;refine⟨_,_,d,⟨.inr ⟨bl,cap,_,t,rest.drop 2,A,by simp,F,?_,by grind,?_⟩⟩,?_⟩
  .rw[LN];unfold spl;simp_all[EU,wB]
  .have:=Dc (l:=C.toList) (off:=l.length*2) (x:=[Value.int .i64 p.1,.int .i64 p.2]) (by omega);grind
  exact⟨⟨rfl,rfl,rfl,by simp,fun k X=>setRow_other W bl k _ (by omega)⟩,zD _⟩
 refine c _ cap e (by omega) ?_;rw[f];refine run_firstCells_some W.drew 2 l.length ⟨bl,0,none⟩ l.length cap _ (EU l) (fun j u Q=>?_);rw[dW,zC,World.cell?_drew,cell?_row B,<-Array.getElem?_toList,D,yh (by grind)];omega
end Go.F.Gv
