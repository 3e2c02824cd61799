/- Part 12. -/
import Derived.Test.YtglbdppmnchoeaaGreatZ11
import Derived.IntWalk
set_option linter.all false
namespace Go.F
variable {P:Program}{c:Ctx}{m:Map}{pr:aM}{h hr:ab}{z zr:Frz}{w:World}
structure Src (P:Program)(w:World)(u e:TypeId)(x:Value)(n:Nat)(news:List Value):Prop where
 ex:∃(i:TypeInfo) (d:TypeDesc),P.info? e=some i/\P.underlying u=some d/\
  ((((∃e',d=.slice e')\/d=.string)/\(∀w':World,w'.heap=w.heap->(Builtin.lenOf x).run P w'=.ok n w'/\(Builtin.firstCells i.size n x).run P w'=.ok news.toArray w'))\/
   ((∃k,d=.int k)/\(∃k,x=.int k n)/\(n:Int)<=1099511627776/\(n:Int) *i.bytes<=281474976710656/\∃zv,i.zero=some zv/\news=(Builtin.zeroCells zv.cells n).toList))
theorem AP {t u ty e:TypeId}{x:Value}{n sLen sCap:Nat}{news:List Value}{base:Option Addr}{w':World}{i:TypeInfo}(l:P.underlying t=some (.slice e))(hi:P.info? e=some i)(D:0<i.size)(S:Src P w u e x n news)
 (c:sLen+n<=sCap) (m:∀a,base=some a->(storeCells (a.add (sLen*i.size)) news).run P w=.ok () w') (o:base=none->w'=w):
 (Builtin.append_ #[t,u] ty #[.slice base sLen sCap,x]).run P w=.ok (.slice base (sLen+n) sCap) w':=by
 obtain⟨H,d,p,q,r⟩:=S.ex;rw[hi]at p;cases p;have b:sizeOf P e=some i.size:=by grind[sizeOf]
 rcases r with⟨z,s⟩ |⟨⟨k,rfl⟩,⟨I,rfl⟩,J,E,F,v,rfl⟩
 .obtain⟨A,B⟩:=s w rfl
  cases base with
  |none=>
   rw[o rfl];rcases z with⟨e',rfl⟩ |rfl<;>simp[Builtin.append_,aT l,aT q,bV b,A,B,c]
  |some a=>
   have:=m a rfl;rcases z with⟨e',rfl⟩ |rfl<;>simp[Builtin.append_,aT l,aT q,bV b,A,B,c,this]
 have g:IntKind.i64.wrap (n:Int)=n:=IntWalk.i64_in _ (by omega);have f:¬((n:Int)<0):=by omega
 have j:¬(281474976710656<(n:Int) *i.bytes):=by omega
 have C:max (n:Int) 0=n:=by omega
 have y:n*i.size=0->(Builtin.zeroCells F.cells n)= #[]:=by
  intro h0
  have G:n=0:=by
   rcases Nat.mul_eq_zero.1 h0 with h|h
   omega;omega
  grind[Builtin.zeroCells]
 cases base with
 |none=>
  rw[o rfl];simp[Builtin.append_,aT l,aT q,bV b,asInt,asIntOf,g,f,qG hi,j,c,kX hi v]
 |some a=>
  have:=m a rfl;by_cases h0:n*i.size=0
  .rw[y h0]at this;simp[Builtin.append_,aT l,aT q,bV b,asInt,asIntOf,g,f,qG hi,j,c,h0,this]
  simp[Builtin.append_,aT l,aT q,bV b,asInt,asIntOf,g,f,qG hi,j,c,h0,kX hi v,this]
theorem Bm {t u ty e:TypeId}{x:Value}{n sLen sCap:Nat}{news b:List Value}{base:Option Addr}{i:TypeInfo}{D:Value}(E:P.underlying t=some (.slice e))(hi:P.info? e=some i)(m:i.zero=some D)(K:0<i.size)(S:Src P w u e x n news)
 (L:sLen<=sCap) (v:sCap<sLen+n) (p:(sLen+n) *(i.bytes+1)<=aK) (c:(Builtin.firstCells i.size sLen (.slice base sLen sCap)).run P w.drew=.ok b.toArray w.drew):
 (Builtin.append_ #[t,u] ty #[.slice base sLen sCap,x]).run P w=
   .ok (.slice (some ⟨w.heap.size,0,none⟩) (sLen+n) (grownCap w (sLen+n) sCap e)) (w.drew.alloc (.cells ((b++news++(Builtin.zeroCells D.cells (grownCap w (sLen+n) sCap e-(sLen+n))).toList).toArray) e)):=by
 obtain⟨T,d,q,F,r⟩:=S.ex;rw[hi]at q;cases q;have a:sizeOf P e=some i.size:=by grind[sizeOf]
 have o:aK=1099511627776:=rfl;rw[o,yP,wn]at p;have G:¬(sLen+n<=sCap):=by omega
 have H:Builtin.nextslicecap (sLen+n) sCap*i.bytes<=281474976710656:=growslice_fits v (by omega);have y:¬(Builtin.nextslicecap (sLen+n) sCap*i.bytes>2^48):=by omega
 have I:IntKind.i64.max=9223372036854775807:=by decide
 have J:¬(((sLen+n:Nat):Int)>IntKind.i64.max):=by omega
 have f:¬(9223372036854775807<((sLen:Int)+(n:Int))):=by omega
 have g:¬(281474976710656<Builtin.nextslicecap (sLen+n) sCap*i.bytes):=by omega
 rcases r with⟨M,j⟩ |⟨⟨k,rfl⟩,⟨U,rfl⟩,N,O,Q,l,rfl⟩
 .obtain⟨R,V⟩:=j w rfl;obtain⟨_,z⟩:=j w.drew rfl;rcases M with⟨e',rfl⟩ |rfl<;>simp[Builtin.append_,aT E,aT F,bV a,R,z,G,qG hi,f,g,Question.forced,c,kX hi m,Go.newRow,grownCap]
  all_goals (congr 2;apply Array.ext';simp)
 rw[m]at l;cases l;have A:IntKind.i64.wrap (n:Int)=n:=IntWalk.i64_in _ (by omega);have s:¬((n:Int)<0):=by omega
 have B:¬(281474976710656<(n:Int) *i.bytes):=by omega
 have C:¬(n*i.size=0):=by
  intro h0;rcases Nat.mul_eq_zero.1 h0 with h|h<;>omega
 simp[Builtin.append_,aT E,aT F,bV a,asInt,asIntOf,A,s,qG hi,B,G,f,g,Question.forced,c,C,kX hi m,Go.newRow,grownCap];congr 2;simp
theorem A2 {id:Nat}{t u ty e:TypeId}{s:D}{vs vx:Value}{new:List D}{news:List Value}{r:Out}(H:HR c m h z w)(hs:Sub hr h)(hz:∀id,hr id≠none->zr id=z id)(A:m id=none)(ht:elemOf P t=some e)
 (hx:VR m (Pr c m h z) w s vs) (S:Src P w u e vx new.length news) (p:Cells m (Pr c m h z) w (fl new) news) (B:jH P hr zr id e s new=some r):
 Sim c m h z w id r ((do pure (Next.value (<-Builtin.append_ #[t,u] ty #[vs,vx])):Sem Next).run P w):=by
 unfold jH at B;split at B
 .rename_i n b d hn hb a5;split at B
  .rename_i a6;obtain⟨c1,c2,c3,c4⟩:=a6;rw[zM]at c4;have X:∀y∈new,y.cells.length=n:=fun y Y=>by simpa using c4 y Y
   obtain⟨i,Q,hi,a7,rfl⟩:=lg a5;have a0:i.size=n:=by simpa[sizeOf,hi]using hn
   have R:i.bytes=b:=by simpa[bytesOf,hi]using hb
   have T:Q.cells.size=n:=by
    have:=((jN (m:=m) (pr:=Pr c m h z) (w:=w) Q).cells c2).1;omega
   have e4:=cY X;have M:news.length=new.length*n:=by rw[<-p.len,e4]
   have N:=lu ht;split at B
   .cases hx with
    |nilsl a=>
     split at B
     .rename_i b8;simp only[zV]at B;subst B;by_cases G:new=[]
      .subst G;have a8:news=[]:=by simpa using M
       subst a8;have:=AP (P:=P) (ty:=ty) (base:=a) (w':=w) N hi (by omega) S (sLen:=0) (sCap:=0) (zD 0) (fun a _=>by simp[storeCells]) (fun _=>rfl);simp at this;exact⟨.value (.slice a 0 0),w,m,by simp[this],.inl ⟨_,rfl,.vnil id a⟩,H.virt A rfl,Ev.virt A,fun _ _=>rfl,Below.refl _ _⟩
      have b9:0<new.length:=wQ.2 G
      have U:(Builtin.firstCells i.size 0 (.slice a 0 0)).run P w.drew=.ok ([]:List Value).toArray w.drew:=by
       cases a with
       |none=>simp[Builtin.firstCells]
       |some a=>simp[Builtin.firstCells,loadCells,loadCellsFrom]
      have g:=Bm (P:=P) (ty:=ty) (base:=a) N hi a7 (by omega) S (zD 0) (sLen:=0) (sCap:=0) (by omega) (by rw[R];simpa using b8) U;simp only[yj,zC]at g;have q:=grownCap_ge w new.length 0 e
      refine Sim.row (t:=e) (C:=(news++(Builtin.zeroCells Q.cells (grownCap w new.length 0 e-new.length)).toList).toArray)
       (w':=w.drew.alloc (.cells ((news++(Builtin.zeroCells Q.cells (grownCap w new.length 0 e-new.length)).toList).toArray) e)) H A (Cells.toRow p rfl c1 X) rfl rfl rfl rfl
       (u:=.slice (some ⟨w.heap.size,0,none⟩) new.length (grownCap w new.length 0 e)) (by simp[g]) (VR.newRef _ (heap_alloc_new w.drew _) ?_ q)
      simp only[xV,zL,yy,size_zeroCells,M,T];rw[<-yX];exact zF _ (by omega)
     cases B
   .rename_i id0 len;split at B
    .rename_i es esz Z;split at B
     .rename_i e5;obtain⟨rfl,q1,q2,q3⟩:=e5;rw[hz id0 (by rw[Z];simp)]at q2;have J:=hs _ _ Z;by_cases a9:∃a,len=0/\vs=.slice a 0 0
      case pos=>
       obtain⟨a,rfl,rfl⟩:=a9;have E:=hz id0 (by rw[Z];simp);simp only[zV]at B;subst B;by_cases G:new=[]
       .subst G;have a8:news=[]:=by simpa using M
        subst a8;have:=AP (P:=P) (ty:=ty) (base:=a) (w':=w) N hi (by omega) S (sLen:=0) (sCap:=0) (zD 0) (fun a _=>by simp[storeCells]) (fun _=>rfl);simp at this;refine⟨.value (.slice a 0 0),w,m,by simp[this],.inl ⟨_,rfl,.vnil id a⟩,?_,?_,fun _ _=>rfl,Below.refl _ _⟩
        .simp only[aJ,yo,yj,E];exact(H.kill id0).virt A (by omega)
        simp only[aJ,yo,yj,E];exact(Ev.kill id0).trans (Ev.virt A)
       have b9:0<new.length:=wQ.2 G
       have U:(Builtin.firstCells i.size 0 (.slice a 0 0)).run P w.drew=.ok ([]:List Value).toArray w.drew:=by
        cases a with
        |none=>simp[Builtin.firstCells]
        |some a=>simp[Builtin.firstCells,loadCells,loadCellsFrom]
       have g:=Bm (P:=P) (ty:=ty) (base:=a) N hi a7 (by omega) S (zD 0) (sLen:=0) (sCap:=0) (by omega) (by rw[R];simpa using q3) U;simp only[yj,zC]at g;have q:=grownCap_ge w new.length 0 e;have Hk:=H.kill id0;have Ek:Ev m (Pr c m h z) w m (Pr c m (upd h id0 none) z) w:=Ev.kill id0;have I:RowIn m (Pr c m h z) w new esz ((news++(Builtin.zeroCells Q.cells (grownCap w new.length 0 e-new.length)).toList).toArray):=Cells.toRow p rfl c1 X
       have K:(w.drew.alloc (.cells ((news++(Builtin.zeroCells Q.cells (grownCap w new.length 0 e-new.length)).toList).toArray) e)).heap=
        w.heap.push (.cells ((news++(Builtin.zeroCells Q.cells (grownCap w new.length 0 e-new.length)).toList).toArray) e):=rfl
       simp only[yo,yj,zC];refine⟨.value (.slice (some ⟨w.heap.size,0,none⟩) new.length (grownCap w new.length 0 e)),w.drew.alloc (.cells ((news++(Builtin.zeroCells Q.cells (grownCap w new.length 0 e-new.length)).toList).toArray) e),upd m id (some (w.heap.size,esz)),by rw[Sem.run_bind,g];rfl,.inl ⟨_,rfl,?_⟩,?_,?_,fun k hk=>upd_ne hk,?_⟩
       .refine VR.newRef _ (heap_alloc_new w.drew _) ?_ q;simp only[xV,zL,yy,size_zeroCells,M,T];rw[<-yX];exact zF _ (by omega)
       .simp only[aJ,E];exact Hk.new A K (by simp;omega) (.inl ⟨_,_,e,rfl,rfl,I.mono Ek⟩)
       .simp only[aJ,E];exact Ek.trans (Ev.new A K)
       exact ud H.base K rfl rfl rfl
      case neg=>
      obtain⟨x0,e7⟩:∃x0,m id0=some x0:=by
       cases hx with
       |ref _ _ _ b' c5 cap C' e8 f hm b1 q a2=>exact⟨_,hm⟩
       |vnil _ a=>exact absurd ⟨a,rfl,rfl⟩ a9
      obtain⟨O,C,t0,g1,g2,g3,g4⟩:=H.rowR J e7;have c7:id≠id0:=fun e0=>by subst e0;rw[A]at g1;cases g1
      have g0:=cY g4.2.1
      cases hx with
      |vnil _ a=>exact absurd ⟨a,rfl,rfl⟩ a9
      |ref _ _ _ b' c5 cap C' e8 f hm b1 q a2=>
       rw[g1]at hm;cases hm;rw[g3]at b1;cases b1;simp only[zC,Nat.zero_mul]at q⊢;simp only[zV]at B;subst B;have E:=hz id0 (by rw[Z];simp)
       have V:∀y∈es.take len++new,y.cells.length=esz:=by
        intro y Y;rcases za.1 Y with Y|Y
        .exact g4.2.1 y (zt Y)
        exact X y Y
       have g5:len*esz<=(fl es).length:=by rw[g0];exact zF _ q1
       have h4:(fl es).length<=C.size:=g4.2.2.1
       have W:Cells m (Pr c m h z) w (fl (es.take len)) (C.toList.take (len*esz)):=by
        rw[n4 g4.2.1];refine⟨by simp;omega,fun k h1 h2=>?_,fun y Y=>g4.2.2.2.2 y (zt Y)⟩;simp only[List.getElem_take,wH];exact g4.2.2.2.1 _ _ _
       by_cases L:len+new.length<=cap
       .
        have a3:len*esz+news.length<=C.size:=by
         rw[M,<-yX];exact zR (zF _ L) q
        have c8:=run_storeCells_at P O (len*esz) t0 news 0 C w g3 (by simpa using a3) p.oneV;simp only[Nat.add_zero]at c8
        have g:=AP (P:=P) (ty:=ty) (base:=some ⟨O,0,none⟩) (w':=w.setRow O (spl C.toList (len*esz) news).toArray) N hi (by omega) S (sLen:=len) (sCap:=cap) L
         (fun a ha=>by cases ha;rw[dW,a0,zC];exact c8) (fun e0=>by cases e0)
        have b2:(spl C.toList (len*esz) news).toArray.size=C.size:=by
         have:=Dc (l:=C.toList) (off:=len*esz) (x:=news) (by simpa using a3);simpa using this
        have a4:∀o,o<z id0*esz->(spl C.toList (len*esz) news).toArray[o]?=C[o]?:=by
         intro o ho;have:z id0*esz<=len*esz:=zF _ q2;simp only[List.getElem?_toArray,spl];rw[z7,yh (by simp;omega),xj (by omega)];simp
        have F:∀k,k≠O->(w.setRow O (spl C.toList (len*esz) news).toArray).heap[k]?=w.heap[k]?:=fun k hk=>setRow_other w O k _ hk;have b3:=setRow_heap w O C (spl C.toList (len*esz) news).toArray t0 (0,0) g3
        have I:RowIn m (Pr c m h z) w (es.take len++new) esz (spl C.toList (len*esz) news).toArray:=by
         refine Cells.toRow (l:=C.toList.take (len*esz)++news) (rest:=C.toList.drop (len*esz+news.length)) ?_ rfl c1 V;rw[oe];exact W.append p
        have g6:z id0<=(es.take len++new).length:=by simp;omega
        refine⟨.value (.slice (some ⟨O,0,none⟩) (len+new.length) cap),w.setRow O (spl C.toList (len*esz) news).toArray,upd m id (some (O,esz)),by simp[g],.inl ⟨_,rfl,?_⟩,?_,?_,fun k hk=>upd_ne hk,?_⟩
        .exact VR.newRef _ b3 (by rw[b2];exact q) L
        .simp only[aJ,E];exact H.move c7 A g1 J g3 b3 b2 F (by simp) a4 g6 I
        .simp only[aJ,E];exact Ev.move H c7 A g1 J g3 b3 b2 F a4
        exact⟨⟨rfl,rfl,rfl,by simp,fun k hk=>F k (by omega)⟩,zD _⟩
       have Hd:HR c m h z w.drew:=H.same rfl
       have b4:(Builtin.firstCells i.size len (.slice (some ⟨O,0,none⟩) len cap)).run P w.drew=.ok (C.toList.take (len*esz)).toArray w.drew:=by
        have hl:(C.toList.take (len*esz)).length=len*i.size:=by rw[a0];simp;omega
        refine run_firstCells_some w.drew i.size len ⟨O,0,none⟩ len cap _ hl (fun j v hj=>?_);rw[dW,zC,World.cell?_drew,cell?_row g3];rw[List.getElem?_take]at hj;split at hj
        .simpa using hj
        cases hj
       have g:=Bm (P:=P) (ty:=ty) (base:=some ⟨O,0,none⟩) N hi a7 (by omega) S a2 (by omega) (by rw[R];exact q3) b4;have Hk:=H.kill id0;have Ek:Ev m (Pr c m h z) w m (Pr c m (upd h id0 none) z) w:=Ev.kill id0;have b5:=grownCap_ge w (len+new.length) cap e
       have I:RowIn m (Pr c m h z) w (es.take len++new) esz ((C.toList.take (len*esz)++news++(Builtin.zeroCells Q.cells (grownCap w (len+new.length) cap e-(len+new.length))).toList).toArray):=by
        refine Cells.toRow (l:=C.toList.take (len*esz)++news) ?_ rfl c1 V;rw[oe];exact W.append p
       have K:(w.drew.alloc (.cells ((C.toList.take (len*esz)++news++(Builtin.zeroCells Q.cells (grownCap w (len+new.length) cap e-(len+new.length))).toList).toArray) e)).heap=
        w.heap.push (.cells ((C.toList.take (len*esz)++news++(Builtin.zeroCells Q.cells (grownCap w (len+new.length) cap e-(len+new.length))).toList).toArray) e):=rfl
       refine⟨.value (.slice (some ⟨w.heap.size,0,none⟩) (len+new.length) (grownCap w (len+new.length) cap e)),w.drew.alloc (.cells ((C.toList.take (len*esz)++news++(Builtin.zeroCells Q.cells (grownCap w (len+new.length) cap e-(len+new.length))).toList).toArray) e),upd m id (some (w.heap.size,esz)),by rw[Sem.run_bind,g];rfl,.inl ⟨_,rfl,?_⟩,?_,?_,fun k hk=>upd_ne hk,?_⟩
       .refine VR.newRef _ (heap_alloc_new w.drew _) ?_ b5;simp only[xV,zL,yy,size_zeroCells,M,T,y8];rw[wI (by omega),<-yX,<-yX];exact zF _ (by omega)
       .simp only[aJ,E];exact Hk.new A K (by simp;omega) (.inl ⟨_,_,e,rfl,rfl,I.mono Ek⟩)
       .simp only[aJ,E];exact Ek.trans (Ev.new A K)
       exact ud H.base K rfl rfl rfl
     cases B
    cases B
   cases B
  cases B
 cases B
theorem VG {id:Nat}{V:List TypeId}{Q:List D}{vs:List Value}{r:Out}{ty:TypeId}(H:HR c m h z w)(G:Sub hr h)(R:∀id,hr id≠none->zr id=z id)(o:m id=none)(hl:Q.length=vs.length)
 (X:∀k (_:k<Q.length) (_:k<vs.length),VR m (Pr c m h z) w Q[k] vs[k]) (a:append P hr zr id V Q=some r):
 Sim c m h z w id r ((do pure (Next.value (<-Builtin.append_ V.toArray ty vs.toArray)):Sem Next).run P w):=by
 unfold append at a;split at a
 .rename_i t u s x
  match vs,hl with
  |[v0,v1],a4=>
   have h0:=X 0 (by simp) (by simp);have h1:=X 1 (by simp) (by simp);split at a
   grind
   .rename_i e S
    have f:∀{new:List D},jH P hr zr id e s new=some r->∃i n,P.info? e=some i/\i.size=n/\0<n/\(∀y∈new,y.cells.length=n)/\new.length*i.bytes<=1099511627776:=by
     intro new A;unfold jH at A;split at A
     .rename_i n b d Y hb g;split at A
      .rename_i j;obtain⟨i,I,hi,B,rfl⟩:=lg g;refine⟨i,n,hi,by grind[sizeOf],j.1,fun y Z=>by grind,?_⟩;have C:i.bytes=b:=by grind[bytesOf]
       have T:aK=1099511627776:=rfl;grind
      grind
     grind
    split at a
    .rename_i k J;split at a
     .rename_i n d Y g;split at a
      .rename_i j;obtain⟨i,sz,hi,K,q,L,C⟩:=f a;obtain⟨i',I,M,B,rfl⟩:=lg g;rw[hi]at M;cases M;obtain⟨k',rfl⟩:=qR h1 Y;by_cases U:n=0
       .subst U;refine A2 (news:=[]) H G R o S h0 ⟨⟨i,_,hi,J,.inr ⟨⟨k,rfl⟩,⟨k',by simp⟩,by simp,by simp,I,B,by simp[Builtin.zeroCells]⟩⟩⟩ ⟨by rfl,by simp,by simp[fl]⟩ a
       have p:0<(eh I).cells.length:=by
        grind
       refine A2 (news:=(Builtin.zeroCells I.cells n).toList) H G R o S h0 ⟨⟨i,_,hi,J,.inr ⟨⟨k,rfl⟩,⟨k',by simp⟩,?_,?_,I,B,by simp⟩⟩⟩ (Ls (jN I) j.2 p) a
       .simp;have:aK=1099511627776:=rfl;omega
       omega
      grind
     grind
    .rename_i J;split at a
     .rename_i E;cases h1;obtain⟨i,sz,hi,K,q,L,C⟩:=f a
      have N:(E.toList.map fun c=>D.int .u8 (c.toNat:Int)).length=E.size:=by
       rw[ByteArray.toList_eq];simp
      have O:fl (E.toList.map fun c=>D.int .u8 (c.toNat:Int))=E.toList.map fun c=>D.int .u8 (c.toNat:Int):=by
       have:=OO (E.toList.map fun c=>(c.toNat:Int));rw[yv]at this;trivial
      refine A2 (news:=E.toList.map fun c=>Value.int .u8 (c.toNat:Int)) H G R o S h0 ⟨⟨i,_,hi,J,.inl ⟨.inr rfl,fun w' F=>?_⟩⟩⟩ ?_ a
      .rw[N];refine⟨by rfl,?_⟩;simp[Builtin.firstCells];obtain⟨⟨l⟩⟩:=E;simp
      rw[O];refine⟨by simp,fun k h4 h5=>?_,fun y Z=>?_⟩
      .simp;exact .int _ _
      obtain⟨c',_,rfl⟩:=zy.1 Z;rfl
     grind
    .rename_i e' J;split at a
     .rename_i l hw;obtain⟨i,sz,hi,K,q,L,C⟩:=f a;have W:=sq H G h1 hw;obtain⟨us,a2,v⟩:=N1 (P:=P) W (n:=l.length) (zD _) (by omega);rw[zZ (zD _)]at v;refine A2 (news:=us) H G R o S h0 ⟨⟨i,_,hi,J,.inl ⟨.inl ⟨e',rfl⟩,fun w' F=>?_⟩⟩⟩ v a;have W':=sq (H.same F) G (h1.mono (Ev.same F)) hw;grind[W'.len]
     grind
    grind
 grind
end Go.F
