/- Part 8. -/
import Derived.Test.YtglbdppmnchoeaaGreatZ7
set_option linter.all false
namespace Go.F
variable {P:Program}{c:Ctx}{m:Map}{pr:aM}{h hr:ab}{z:Frz}{w:World}
theorem ud {B:Nat}{w w':World}{o:Obj}(d:B<=w.heap.size)(a:w'.heap=w.heap.push o)(h1:w'.os=w.os)(b:w'.tape=w.tape)(h3:w'.output=w.output)(c:w.drawn<=w'.drawn:=by first|exact zD _|exact Nat.le_succ _):Below B w w':=
 ⟨⟨h1,b,h3,by rw[a];simp,fun k e=>by rw[a,Array.getElem?_push_lt (by omega),yC (by omega)]⟩,c⟩
theorem Sim.row {id:Nat}{es:List D}{n:Nat}{v:D}{u:Value}{C:Array Value}{t:TypeId}{w':World}{a:Result Next}(H:HR c m h z w)(b:m id=none)(d:RowIn m (Pr c m h z) w es n C)
 (f:w'.heap=w.heap.push (.cells C t)) (h1:w'.os=w.os) (g:w'.tape=w.tape) (h3:w'.output=w.output) (e:a=.ok (.value u) w')
 (i:VR (upd m id (some (w.heap.size,n))) (Pr c (upd m id (some (w.heap.size,n))) (upd h id (some (.row es n))) (upd z id 0)) w' v u) (j:w.drawn<=w'.drawn:=by first|exact zD _|exact Nat.le_succ _):Sim c m h z w id (newRow id es n v) a:=
 ⟨.value u,w',upd m id (some (w.heap.size,n)),e,.inl ⟨u,rfl,i⟩,
  H.new b f (by simp) (.inl ⟨es,C,t,rfl,rfl,d⟩),Ev.new b f,fun k l=>upd_ne l,ud H.base f h1 g h3 j⟩
theorem VR.newPtr {id n:Nat}{pr':aM}{w':World}(size:Nat):VR (upd m id (some (size,n))) pr' w' (.ptr id 0 0) (.pointer (some ⟨size,0,none⟩)):=by
 have:=VR.ptr (m:=upd m id (some (size,n))) (pr:=pr') (w:=w') id 0 0 size n (upd_same ..);grind
theorem VR.newRef {id n len cap:Nat}{pr':aM}{w':World}{C:Array Value}{t:TypeId}(size:Nat)(a:w'.heap[size]?=some (.cells C t))(c:cap*n<=C.size)(b:len<=cap):
 VR (upd m id (some (size,n))) pr' w' (.ref id 0 len) (.slice (some ⟨size,0,none⟩) len cap):=by
 have:=VR.ref (m:=upd m id (some (size,n))) (pr:=pr') (w:=w') id 0 len size n cap C t (0,0) (upd_same ..) a (by grind) b;grind
theorem RowIn.single {d:D}{v:Value}(a:VR m pr w d v)(b:d.sto=true)(h0:0<d.cells.length):RowIn m pr w [d] d.cells.length v.cells:=by
 obtain⟨h1,f,h3⟩:=a.cells b;have c:fl [d]=d.cells:=by simp[fl]
 refine⟨h0,by simp,by grind,fun k g e=>?_,by grind⟩;grind
theorem Rs {id:Nat}{e:TypeId}{d:D}(H:HR c m h z w)(a:m id=none)(b:zeroOf P e=some d)(h0:0<d.cells.length)(f:d.sto=true):
 Sim c m h z w id (newRow id [d] d.cells.length (.ptr id 0 0)) ((do pure (Next.value (<-Instr.alloc e true (.tuple #[]))):Sem Next).run P w):=by
 obtain⟨i,v,hi,g,rfl⟩:=lg b;refine Sim.row (t:=e) (C:=v.cells) (w':=w.alloc (.cells v.cells e)) H a (RowIn.single (jN v) f h0) rfl rfl rfl rfl ?_ (VR.newPtr _);simp_all[Instr.alloc,kX,newVar,Go.newRow]
theorem Pt {id:Nat}{e:TypeId}{d:D}{v:Value}(H:HR c m h z w)(a:m id=none)(b:VR m (Pr c m h z) w d v)(h0:0<d.cells.length)(f:d.sto=true):
 Sim c m h z w id (newRow id [d] d.cells.length (.ptr id 0 0)) ((do pure (Next.value (<-Instr.box e v)):Sem Next).run P w):=by
 refine Sim.row (t:=e) (C:=v.cells) (w':=w.alloc (.cells v.cells e)) H a (RowIn.single b f h0) rfl rfl rfl rfl ?_ (VR.newPtr _);rfl
theorem Wx {n k:Nat}{d:D}(c:k<(fl (List.replicate n d)).length)(h0:0<d.cells.length):(fl (List.replicate n d))[k]=d.cells[k%d.cells.length]'(zI _ h0):=by
 have a:∀e∈List.replicate n d,e.cells.length=d.cells.length:=fun e f=>by grind
 have g:=cY a
 have b:k/d.cells.length<n:=by
  exact ym (by grind)
 have:=fO a (i:=k/d.cells.length) (e:=d) (by grind) (j:=k%d.cells.length) (zI _ h0);rw[zx,yH]at this;grind
theorem RowIn.replicate {d:D}{v:Value}{n N:Nat}(c:VR m pr w d v)(f:d.sto=true)(h0:0<d.cells.length)(o:n*d.cells.length<=N):
 RowIn m pr w (List.replicate n d) d.cells.length ((Array.range N).map (v.cells[· %v.cells.size]!)):=by
 obtain⟨h1,p,h3⟩:=c.cells f;have a:∀e∈List.replicate n d,e.cells.length=d.cells.length:=fun e b=>by grind
 have q:=cY a;refine⟨h0,a,by grind,fun k g h=>?_,fun e b=>?_⟩
 .rw[Wx g h0];grind
 obtain⟨l,i,j⟩:=List.mem_flatten.1 b;grind
theorem lu {t e:TypeId}(a:elemOf P t=some e):P.underlying t=some (.slice e):=by
 unfold elemOf at a;grind
theorem XL {id:Nat}{ty e:TypeId}{l a:Int}{n b:Nat}{d:D}(H:HR c m h z w)(f:m id=none)(s:elemOf P ty=some e)(I:sizeOf P e=some n)(J:bytesOf P e=some b)(x:zeroOf P e=some d)
 (h0:0<n) (y:0<=l) (g:l<=a) (q:a*(b+1)<=aK) (A:d.cells.length=n) (B:d.sto=true):
 Sim c m h z w id (newRow id (List.replicate l.toNat d) n (.ref id 0 l.toNat)) ((do pure (Next.value (<-Instr.makeSlice ty (.int .i64 l) (.int .i64 a))):Sem Next).run P w):=by
 obtain⟨i,v,hi,E,rfl⟩:=lg x;have F:i.size=n:=by grind[sizeOf]
 have G:i.bytes=b:=by grind[bytesOf]
 subst A;have j:0<=a:=by omega
 have k:((aK:Nat):Int)=1099511627776:=by rfl
 have o:a<=1099511627776:=by
  have h1:a*1<=a*((b:Int)+1):=xO (by omega) j;omega
 have p:(i.bytes:Int) *a<=281474976710656:=by
  grind
 have r:=run_make (P:=P) w ty e i v (lu s) hi E .i64 .i64 l a y g p (by omega)
 refine Sim.row (t:=e) (C:=madeCells v.cells (a.toNat*(eh v).cells.length)) (w':=w.alloc (.cells (madeCells v.cells (a.toNat*(eh v).cells.length)) e)) H f
  (RowIn.replicate (jN v) B h0 (zF _ (by omega))) rfl rfl rfl rfl (u:=.slice (some ⟨w.heap.size,0,none⟩) l.toNat a.toNat) ?_
  (VR.newRef _ (heap_alloc_new w _) (by simp[size_madeCells]) (by omega))
 simp_all
theorem F3 (vs:List Value):∀(a:Array Value) (off k:Nat),off+k+vs.length<=a.size->
 ((vs.zipIdx k).foldl (fun cs x=>cs.setIfInBounds (off+x.2) x.1) a).toList=a.toList.take (off+k)++vs++a.toList.drop (off+k+vs.length):=by
 induction vs with
 |nil=>simp
 |cons v vs c=>
  intro a off k b;simp at b⊢;rw[c _ off (k+1) (by grind)];simp;have d:off+k<(a.toList.set (off+k) v).length:=by grind
  rw[show off+(k+1)=(off+k)+1 by omega,yd d,x9,yx (zD _),wO (by omega)];grind
structure Cells (m:Map)(pr:aM)(w:World)(l:List D)(C:List Value):Prop where
 len:l.length=C.length
 vr:∀k (h1:k<l.length) (h2:k<C.length),VR m pr w l[k] C[k]
 one:∀e∈l,e.one=true
theorem Cells.append {l c:List D}{C d:List Value}(h1:Cells m pr w l C)(a:Cells m pr w c d):Cells m pr w (l++c) (C++d):=by
 refine⟨by simp[h1.len,a.len],fun k i f=>?_,fun e g=>?_⟩
 .by_cases b:k<l.length
  .rw[yu b,yu (by have:=h1.len;omega)];simp[h1.vr]
  have j:=h1.len;grind[a.vr]
 rcases za.1 g with h|h
 grind[h1.one];grind[a.one]
theorem Cells.take {l:List D}{C:List Value}(h1:Cells m pr w l C)(n:Nat):Cells m pr w (l.take n) (C.take n):=
 ⟨by simp[h1.len],fun k c a=>by simp[h1.vr],fun e b=>h1.one e (zt b)⟩
theorem Cells.drop {l:List D}{C:List Value}(h1:Cells m pr w l C)(n:Nat):Cells m pr w (l.drop n) (C.drop n):=
 ⟨by simp[h1.len],fun k c a=>by simp[h1.vr],fun e b=>h1.one e (yJ b)⟩
theorem VR.toCells {d:D}{v:Value}(a:VR m pr w d v)(b:d.sto=true):Cells m pr w d.cells v.cells.toList:=by
 obtain⟨h1,e,h3⟩:=a.cells b;exact⟨by omega,fun k f c=>by grind,h3⟩
theorem Cells.agg {l:List D}{C:List Value}(h:Cells m pr w l C):VR m pr w (.agg l) (.agg C.toArray):=
 .agg l _ (by simp[h.len]) (fun k b a=>by simp[h.vr]) h.one
theorem Fy {t:ai}{ρ:Operand->Value}(o:pg m pr w t ρ)(place:Nat->Option (Nat×Nat)):∀(parts:List (Nat×Operand)) (l:List D) (C:Array Value) (d:List D),Cells m pr w l C.toList->
 iN t place l parts=some d->∃k:Array Value,Instr.fill place C (parts.map fun p=>(p.1,ρ p.2))=some k/\Cells m pr w d k.toList:=by
 intro parts
 induction parts with
 |nil=>intro l C d e b;simp[iN]at b;subst b;exact⟨C,rfl,e⟩
 |cons p parts q=>
  obtain⟨i,x⟩:=p;intro l C d e b;simp only[iN]at b;split at b
  grind
  .rename_i off size f;split at b
   .rename_i c;obtain⟨h1,r,h3⟩:=c;have g:=(o x).toCells h3;have n:(ρ x).cells.size=size:=by grind[g.len]
    have s:l.length=C.size:=by simp[e.len]
    simp only[zg,Instr.fill,f]
    have a:((ρ x).cells.size≠size||off+(ρ x).cells.size>C.size)=false:=by
     grind
    simp only[a];refine q _ _ d ?_ b;have h:=F3 (ρ x).cells.toList C off 0 (by grind);rw[<-xp,Array.toList_zipIdx];rw[h];have j:(ρ x).cells.toList.length=(ev t x).cells.length:=g.len.symm;rw[j];exact(e.take _|>.append g).append (e.drop _)
   grind
theorem S0 {c:Array Field}{a:List (Nat×Nat)}(b:vO P c.toList=some a):
 (c.mapM fun f=>(do pure (f.offset,<-Go.sizeOf f.type):Sem (Nat×Nat))).run P w=.ok a.toArray w:=by
 rw[wa];unfold vO at b
 have key:∀(l:List Field) (a:List (Nat×Nat)),l.mapM (fun f=>(sizeOf P f.type).map fun n=>(f.offset,n))=some a->
  (l.mapM fun f=>(do pure (f.offset,<-Go.sizeOf f.type):Sem (Nat×Nat))).run P w=.ok a w:=by
  intro l
  induction l with
  |nil=>simp
  |cons f l e=>
   intro a b;simp at b⊢
   cases g:sizeOf P f.type with
   |none=>grind
   |some n=>
    cases h:l.mapM (fun f=>(sizeOf P f.type).map fun n=>(f.offset,n))with
    |none=>grind
    |some d=>
     simp_all[bV]
 simp_all
theorem run_build {t:ai}{ρ:Operand->Value}{ty:TypeId}{parts:Array (Nat×Operand)}{d:D}(p:pg m pr w t ρ)(b:build P t ty parts.toList=some d):
 ∃v,(Instr.build ty (parts.map fun(i,x)=>(i,ρ x))).run P w=.ok v w/\VR m pr w d v:=by
 unfold build at b;split at b
 .rename_i s z' q h;obtain⟨i,v,hi,r,rfl⟩:=lg h;split at b
  .rename_i c f;split at b
   .rename_i a
    cases g:iN t (fun i=>c[i]?) (eh v).cells parts.toList with
    |none=>grind
    |some j=>
     simp[g]at b;subst b;obtain⟨l,h1,o⟩:=Fy (m:=m) (pr:=pr) (w:=w) p (fun i=>c[i]?) parts.toList _ v.cells j ((jN v).toCells a) g;refine⟨.agg l,?_,by have:=o.agg;omega⟩;simp only[Instr.build,Sem.run_bind,kX hi r,Result.andThen_ok,aT q,S0 f];simp_all
   grind
  grind
 .rename_i n e z' q h;obtain⟨i,v,hi,r,rfl⟩:=lg h;split at b
  .rename_i k u;split at b
   .rename_i a
    cases g:iN t (fun i=>some (i*k,k)) (eh v).cells parts.toList with
    |none=>grind
    |some j=>
     simp[g]at b;subst b;obtain⟨l,h1,o⟩:=Fy (m:=m) (pr:=pr) (w:=w) p (fun i=>some (i*k,k)) parts.toList _ v.cells j ((jN v).toCells a) g;refine⟨.agg l,?_,by have:=o.agg;omega⟩;simp_all[Instr.build,kX,aT,bV]
   grind
  grind
 grind
end Go.F
