/- Part 6. -/
import Derived.Test.YtglbdppmnchoeaaGreatZ5
import Derived.IntWalk
set_option linter.all false
namespace Go.F
variable {P:Program}{c:Ctx}{m:Map}{pr:aM}{h hr:ab}{z zr:Frz}{w:World}
structure Src (P:Program)(w:World)(u e:TypeId)(x:Value)(n:Nat)(news:List Value):Prop where
 ex:∃(i:TypeInfo) (d:TypeDesc),P.info? e=some i/\P.underlying u=some d/\
  ((((∃e',d=.slice e')\/d=.string)/\(∀w':World,w'.heap=w.heap->(Builtin.lenOf x).run P w'=.ok n w'/\(Builtin.firstCells i.size n x).run P w'=.ok news.toArray w'))\/
   ((∃k,d=.int k)/\(∃k,x=.int k n)/\(n:Int)<=1099511627776/\(n:Int) *i.bytes<=281474976710656/\∃zv,i.zero=some zv/\news=(Builtin.zeroCells zv.cells n).toList))
theorem AP {t u ty e:TypeId}{x:Value}{n sLen sCap:Nat}{news:List Value}{base:Option Addr}{w':World}{i:TypeInfo}(l:P.underlying t=some (.slice e))(hi:P.info? e=some i)(D:0<i.size)(S:Src P w u e x n news)
 (c:sLen+n<=sCap) (m:∀a,base=some a->(storeCells (a.add (sLen*i.size)) news).run P w=.ok () w') (o:base=none->w'=w):
 (Builtin.append_ #[t,u] ty #[.slice base sLen sCap,x]).run P w=.ok (.slice base (sLen+n) sCap) w':=by
 obtain⟨H,d,p,q,r⟩:=S.ex;rw[hi]at p;cases p;have b:sizeOf P e=some i.size:=by grind[sizeOf]
 rcases r with⟨z,s⟩ |⟨⟨k,rfl⟩,⟨I,rfl⟩,J,E,F,v,rfl⟩
 .obtain⟨A,B⟩:=s w rfl
  cases base with
  |none=>
   rw[o rfl];rcases z with⟨e',rfl⟩ |rfl<;>simp[Builtin.append_,aT l,aT q,bV b,A,B,c]
  |some a=>
   have:=m a rfl;rcases z with⟨e',rfl⟩ |rfl<;>simp[Builtin.append_,aT l,aT q,bV b,A,B,c,this]
 have g:IntKind.i64.wrap (n:Int)=n:=IntWalk.i64_in _ (by omega);have f:¬((n:Int)<0):=by omega
 have j:¬(281474976710656<(n:Int) *i.bytes):=by omega
 have C:max (n:Int) 0=n:=by omega
 have y:n*i.size=0->(Builtin.zeroCells F.cells n)= #[]:=by
  intro h0
  have G:n=0:=by
   rcases Nat.mul_eq_zero.1 h0 with h|h
   omega;omega
  grind[Builtin.zeroCells]
 cases base with
 |none=>
  rw[o rfl];simp[Builtin.append_,aT l,aT q,bV b,asInt,asIntOf,g,f,qG hi,j,c,kX hi v]
 |some a=>
  have:=m a rfl;by_cases h0:n*i.size=0
  .rw[y h0]at this;simp[Builtin.append_,aT l,aT q,bV b,asInt,asIntOf,g,f,qG hi,j,c,h0,this]
  simp[Builtin.append_,aT l,aT q,bV b,asInt,asIntOf,g,f,qG hi,j,c,h0,kX hi v,this]
theorem Bm {t u ty e:TypeId}{x:Value}{n sLen sCap:Nat}{news b:List Value}{base:Option Addr}{i:TypeInfo}{D:Value}(E:P.underlying t=some (.slice e))(hi:P.info? e=some i)(m:i.zero=some D)(K:0<i.size)(S:Src P w u e x n news)
 (L:sLen<=sCap) (v:sCap<sLen+n) (p:(sLen+n) *(i.bytes+1)<=aK) (c:(Builtin.firstCells i.size sLen (.slice base sLen sCap)).run P w.drew=.ok b.toArray w.drew):
 (Builtin.append_ #[t,u] ty #[.slice base sLen sCap,x]).run P w=
   .ok (.slice (some ⟨w.heap.size,0,none⟩) (sLen+n) (grownCap w (sLen+n) sCap e)) (w.drew.alloc (.cells ((b++news++(Builtin.zeroCells D.cells (grownCap w (sLen+n) sCap e-(sLen+n))).toList).toArray) e)):=by
 obtain⟨T,d,q,F,r⟩:=S.ex;rw[hi]at q;cases q;have a:sizeOf P e=some i.size:=by grind[sizeOf]
 have o:aK=1099511627776:=rfl;rw[o,yP,wn]at p;have G:¬(sLen+n<=sCap):=by omega
 have H:Builtin.nextslicecap (sLen+n) sCap*i.bytes<=281474976710656:=growslice_fits v (by omega);have y:¬(Builtin.nextslicecap (sLen+n) sCap*i.bytes>2^48):=by omega
 have I:IntKind.i64.max=9223372036854775807:=by decide
 have J:¬(((sLen+n:Nat):Int)>IntKind.i64.max):=by omega
 have f:¬(9223372036854775807<((sLen:Int)+(n:Int))):=by omega
 have g:¬(281474976710656<Builtin.nextslicecap (sLen+n) sCap*i.bytes):=by omega
 rcases r with⟨M,j⟩ |⟨⟨k,rfl⟩,⟨U,rfl⟩,N,O,Q,l,rfl⟩
 .obtain⟨R,V⟩:=j w rfl;obtain⟨_,z⟩:=j w.drew rfl;rcases M with⟨e',rfl⟩ |rfl<;>simp[Builtin.append_,aT E,aT F,bV a,R,z,G,qG hi,f,g,Question.forced,c,kX hi m,Go.newRow,grownCap]
  all_goals (congr 2;apply Array.ext';simp)
 rw[m]at l;cases l;have A:IntKind.i64.wrap (n:Int)=n:=IntWalk.i64_in _ (by omega);have s:¬((n:Int)<0):=by omega
 have B:¬(281474976710656<(n:Int) *i.bytes):=by omega
 have C:¬(n*i.size=0):=by
  intro h0;rcases Nat.mul_eq_zero.1 h0 with h|h<;>omega
 simp[Builtin.append_,aT E,aT F,bV a,asInt,asIntOf,A,s,qG hi,B,G,f,g,Question.forced,c,C,kX hi m,Go.newRow,grownCap];congr 2;simp
theorem A2 {id:Nat}{t u ty e:TypeId}{s:D}{vs vx:Value}{new:Hm}{news:List Value}{r:Out}(H:HR c m h z w)(hs:Sub hr h)(hz:∀id,hr id≠none->zr id=z id)(A:m id=none)(ht:elemOf P t=some e)
 (hx:VR m (Pr c m h z) w s vs) (S:Src P w u e vx new.length news) (p:Cells m (Pr c m h z) w (fl new) news) (B:jH P hr zr id e s new=some r):
 Sim c m h z w id r ((do pure (Next.value (<-Builtin.append_ #[t,u] ty #[vs,vx])):Sem Next).run P w):=by
 unfold jH at B;split at B
 .rename_i n b d hn hb a5;split at B
  .rename_i a6;obtain⟨c1,c2,c3,c4⟩:=a6;rw[zM]at c4;have X:∀y∈new,y.cells.length=n:=fun y Y=>by simpa using c4 y Y
   obtain⟨i,Q,hi,a7,rfl⟩:=lg a5;have a0:i.size=n:=by simpa[sizeOf,hi]using hn
   have R:i.bytes=b:=by simpa[bytesOf,hi]using hb
   have T:Q.cells.size=n:=by
    have:=((jN (m:=m) (pr:=Pr c m h z) (w:=w) Q).cells c2).1;omega
   have e4:=cY X;have M:news.length=new.length*n:=by rw[<-p.len,e4]
   have N:=lu ht;split at B
   .cases hx with
    |nilsl a=>
     split at B
     .rename_i b8;simp only[zV]at B;subst B;by_cases G:new=[]
      .subst G;have a8:news=[]:=by simpa using M
       subst a8;have:=AP (P:=P) (ty:=ty) (base:=a) (w':=w) N hi (by omega) S (sLen:=0) (sCap:=0) (zD 0) (fun a _=>by simp[storeCells]) (fun _=>rfl);simp at this;exact⟨.value (.slice a 0 0),w,m,by simp[this],.inl ⟨_,rfl,.vnil id a⟩,H.virt A rfl,Ev.virt A,fun _ _=>rfl,Below.refl _ _⟩
      have b9:0<new.length:=wQ.2 G
      have U:(Builtin.firstCells i.size 0 (.slice a 0 0)).run P w.drew=.ok ([]:List Value).toArray w.drew:=by
       cases a with
       |none=>simp[Builtin.firstCells]
       |some a=>simp[Builtin.firstCells,loadCells,loadCellsFrom]
      have g:=Bm (P:=P) (ty:=ty) (base:=a) N hi a7 (by omega) S (zD 0) (sLen:=0) (sCap:=0) (by omega) (by rw[R];simpa using b8) U;simp only[yj,zC]at g;have q:=grownCap_ge w new.length 0 e
      refine Sim.row (t:=e) (C:=(news++(Builtin.zeroCells Q.cells (grownCap w new.length 0 e-new.length)).toList).toArray)
       (w':=w.drew.alloc (.cells ((news++(Builtin.zeroCells Q.cells (grownCap w new.length 0 e-new.length)).toList).toArray) e)) H A (Cells.toRow p rfl c1 X) rfl rfl rfl rfl
       (u:=.slice (some ⟨w.heap.size,0,none⟩) new.length (grownCap w new.length 0 e)) (by simp[g]) (VR.newRef _ (heap_alloc_new w.drew _) ?_ q)
      simp only[xV,zL,yy,size_zeroCells,M,T];rw[<-yX];exact zF _ (by omega)
     cases B
   .rename_i id0 len;split at B
    .rename_i es esz Z;split at B
     .rename_i e5;obtain⟨rfl,q1,q2,q3⟩:=e5;rw[hz id0 (by rw[Z];simp)]at q2;have J:=hs _ _ Z;by_cases a9:∃a,len=0/\vs=.slice a 0 0
      case pos=>
       obtain⟨a,rfl,rfl⟩:=a9;have E:=hz id0 (by rw[Z];simp);simp only[zV]at B;subst B;by_cases G:new=[]
       .subst G;have a8:news=[]:=by simpa using M
        subst a8;have:=AP (P:=P) (ty:=ty) (base:=a) (w':=w) N hi (by omega) S (sLen:=0) (sCap:=0) (zD 0) (fun a _=>by simp[storeCells]) (fun _=>rfl);simp at this;refine⟨.value (.slice a 0 0),w,m,by simp[this],.inl ⟨_,rfl,.vnil id a⟩,?_,?_,fun _ _=>rfl,Below.refl _ _⟩
        .simp only[aJ,yo,yj,E];exact(H.kill id0).virt A (by omega)
        simp only[aJ,yo,yj,E];exact(Ev.kill id0).trans (Ev.virt A)
       have b9:0<new.length:=wQ.2 G
       have U:(Builtin.firstCells i.size 0 (.slice a 0 0)).run P w.drew=.ok ([]:List Value).toArray w.drew:=by
        cases a with
        |none=>simp[Builtin.firstCells]
        |some a=>simp[Builtin.firstCells,loadCells,loadCellsFrom]
       have g:=Bm (P:=P) (ty:=ty) (base:=a) N hi a7 (by omega) S (zD 0) (sLen:=0) (sCap:=0) (by omega) (by rw[R];simpa using q3) U;simp only[yj,zC]at g;have q:=grownCap_ge w new.length 0 e;have Hk:=H.kill id0;have Ek:Ev m (Pr c m h z) w m (Pr c m (upd h id0 none) z) w:=Ev.kill id0;have I:RowIn m (Pr c m h z) w new esz ((news++(Builtin.zeroCells Q.cells (grownCap w new.length 0 e-new.length)).toList).toArray):=Cells.toRow p rfl c1 X
       have K:(w.drew.alloc (.cells ((news++(Builtin.zeroCells Q.cells (grownCap w new.length 0 e-new.length)).toList).toArray) e)).heap=
        w.heap.push (.cells ((news++(Builtin.zeroCells Q.cells (grownCap w new.length 0 e-new.length)).toList).toArray) e):=rfl
       simp only[yo,yj,zC];refine⟨.value (.slice (some ⟨w.heap.size,0,none⟩) new.length (grownCap w new.length 0 e)),w.drew.alloc (.cells ((news++(Builtin.zeroCells Q.cells (grownCap w new.length 0 e-new.length)).toList).toArray) e),upd m id (some (w.heap.size,esz)),by rw[Sem.run_bind,g];rfl,.inl ⟨_,rfl,?_⟩,?_,?_,fun k hk=>upd_ne hk,?_⟩
       .refine VR.newRef _ (heap_alloc_new w.drew _) ?_ q;simp only[xV,zL,yy,size_zeroCells,M,T];rw[<-yX];exact zF _ (by omega)
       .simp only[aJ,E];exact Hk.new A K (by simp;omega) (.inl ⟨_,_,e,rfl,rfl,I.mono Ek⟩)
       .simp only[aJ,E];exact Ek.trans (Ev.new A K)
       exact ud H.base K rfl rfl rfl
      case neg=>
      obtain⟨x0,e7⟩:∃x0,m id0=some x0:=by
       cases hx with
       |ref _ _ _ b' c5 cap C' e8 f hm b1 q a2=>exact⟨_,hm⟩
       |vnil _ a=>exact absurd ⟨a,rfl,rfl⟩ a9
      obtain⟨O,C,t0,g1,g2,g3,g4⟩:=H.rowR J e7;have c7:id≠id0:=fun e0=>by subst e0;rw[A]at g1;cases g1
      have g0:=cY g4.2.1
      cases hx with
      |vnil _ a=>exact absurd ⟨a,rfl,rfl⟩ a9
      |ref _ _ _ b' c5 cap C' e8 f hm b1 q a2=>
       rw[g1]at hm;cases hm;rw[g3]at b1;cases b1;simp only[zC,Nat.zero_mul]at q⊢;simp only[zV]at B;subst B;have E:=hz id0 (by rw[Z];simp)
       have V:∀y∈es.take len++new,y.cells.length=esz:=by
        intro y Y;rcases za.1 Y with Y|Y
        .exact g4.2.1 y (zt Y)
        exact X y Y
       have g5:len*esz<=(fl es).length:=by rw[g0];exact zF _ q1
       have h4:(fl es).length<=C.size:=g4.2.2.1
       have W:Cells m (Pr c m h z) w (fl (es.take len)) (C.toList.take (len*esz)):=by
        rw[n4 g4.2.1];refine⟨by simp;omega,fun k h1 h2=>?_,fun y Y=>g4.2.2.2.2 y (zt Y)⟩;simp only[vR,wH];exact g4.2.2.2.1 _ _ _
       by_cases L:len+new.length<=cap
       .
        have a3:len*esz+news.length<=C.size:=by
         rw[M,<-yX];exact zR (zF _ L) q
        have c8:=run_storeCells_at P O (len*esz) t0 news 0 C w g3 (by simpa using a3) p.oneV;simp only[Nat.add_zero]at c8
        have g:=AP (P:=P) (ty:=ty) (base:=some ⟨O,0,none⟩) (w':=w.setRow O (spl C.toList (len*esz) news).toArray) N hi (by omega) S (sLen:=len) (sCap:=cap) L
         (fun a ha=>by cases ha;rw[dW,a0,zC];exact c8) (fun e0=>by cases e0)
        have b2:(spl C.toList (len*esz) news).toArray.size=C.size:=by
         have:=Dc (l:=C.toList) (off:=len*esz) (x:=news) (by simpa using a3);simpa using this
        have a4:∀o,o<z id0*esz->(spl C.toList (len*esz) news).toArray[o]?=C[o]?:=by
         intro o ho;have:z id0*esz<=len*esz:=zF _ q2;simp only[List.getElem?_toArray,spl];rw[z7,yh (by simp;omega),xj (by omega)];simp
        have F:∀k,k≠O->(w.setRow O (spl C.toList (len*esz) news).toArray).heap[k]?=w.heap[k]?:=fun k hk=>setRow_other w O k _ hk;have b3:=setRow_heap w O C (spl C.toList (len*esz) news).toArray t0 (0,0) g3
        have I:RowIn m (Pr c m h z) w (es.take len++new) esz (spl C.toList (len*esz) news).toArray:=by
         refine Cells.toRow (l:=C.toList.take (len*esz)++news) (rest:=C.toList.drop (len*esz+news.length)) ?_ rfl c1 V;rw[oe];exact W.append p
        have g6:z id0<=(es.take len++new).length:=by simp;omega
        refine⟨.value (.slice (some ⟨O,0,none⟩) (len+new.length) cap),w.setRow O (spl C.toList (len*esz) news).toArray,upd m id (some (O,esz)),by simp[g],.inl ⟨_,rfl,?_⟩,?_,?_,fun k hk=>upd_ne hk,?_⟩
        .exact VR.newRef _ b3 (by rw[b2];exact q) L
        .simp only[aJ,E];exact H.move c7 A g1 J g3 b3 b2 F (by simp) a4 g6 I
        .simp only[aJ,E];exact Ev.move H c7 A g1 J g3 b3 b2 F a4
        exact⟨⟨rfl,rfl,rfl,by simp,fun k hk=>F k (by omega)⟩,zD _⟩
       have Hd:HR c m h z w.drew:=H.same rfl
       have b4:(Builtin.firstCells i.size len (.slice (some ⟨O,0,none⟩) len cap)).run P w.drew=.ok (C.toList.take (len*esz)).toArray w.drew:=by
        have hl:(C.toList.take (len*esz)).length=len*i.size:=by rw[a0];simp;omega
        refine run_firstCells_some w.drew i.size len ⟨O,0,none⟩ len cap _ hl (fun j v hj=>?_);rw[dW,zC,World.cell?_drew,cell?_row g3];rw[List.getElem?_take]at hj;split at hj
        .simpa using hj
        cases hj
       have g:=Bm (P:=P) (ty:=ty) (base:=some ⟨O,0,none⟩) N hi a7 (by omega) S a2 (by omega) (by rw[R];exact q3) b4;have Hk:=H.kill id0;have Ek:Ev m (Pr c m h z) w m (Pr c m (upd h id0 none) z) w:=Ev.kill id0;have b5:=grownCap_ge w (len+new.length) cap e
       have I:RowIn m (Pr c m h z) w (es.take len++new) esz ((C.toList.take (len*esz)++news++(Builtin.zeroCells Q.cells (grownCap w (len+new.length) cap e-(len+new.length))).toList).toArray):=by
        refine Cells.toRow (l:=C.toList.take (len*esz)++news) ?_ rfl c1 V;rw[oe];exact W.append p
       have K:(w.drew.alloc (.cells ((C.toList.take (len*esz)++news++(Builtin.zeroCells Q.cells (grownCap w (len+new.length) cap e-(len+new.length))).toList).toArray) e)).heap=
        w.heap.push (.cells ((C.toList.take (len*esz)++news++(Builtin.zeroCells Q.cells (grownCap w (len+new.length) cap e-(len+new.length))).toList).toArray) e):=rfl
       refine⟨.value (.slice (some ⟨w.heap.size,0,none⟩) (len+new.length) (grownCap w (len+new.length) cap e)),w.drew.alloc (.cells ((C.toList.take (len*esz)++news++(Builtin.zeroCells Q.cells (grownCap w (len+new.length) cap e-(len+new.length))).toList).toArray) e),upd m id (some (w.heap.size,esz)),by rw[Sem.run_bind,g];rfl,.inl ⟨_,rfl,?_⟩,?_,?_,fun k hk=>upd_ne hk,?_⟩
       .refine VR.newRef _ (heap_alloc_new w.drew _) ?_ b5;simp only[xV,zL,yy,size_zeroCells,M,T,y8];rw[wI (by omega),<-yX,<-yX];exact zF _ (by omega)
       .simp only[aJ,E];exact Hk.new A K (by simp;omega) (.inl ⟨_,_,e,rfl,rfl,I.mono Ek⟩)
       .simp only[aJ,E];exact Ek.trans (Ev.new A K)
       exact ud H.base K rfl rfl rfl
     cases B
    cases B
   cases B
  cases B
 cases B
theorem VG {id:Nat}{V:List TypeId}{Q:Hm}{vs:List Value}{r:Out}{ty:TypeId}(H:HR c m h z w)(G:Sub hr h)(R:∀id,hr id≠none->zr id=z id)(o:m id=none)(hl:Q.length=vs.length)
 (X:∀k (_:k<Q.length) (_:k<vs.length),VR m (Pr c m h z) w Q[k] vs[k]) (a:append P hr zr id V Q=some r):
 Sim c m h z w id r ((do pure (Next.value (<-Builtin.append_ V.toArray ty vs.toArray)):Sem Next).run P w):=by
 unfold append at a;split at a
 .rename_i t u s x
  match vs,hl with
  |[v0,v1],a4=>
   have h0:=X 0 (by simp) (by simp);have h1:=X 1 (by simp) (by simp);split at a
   grind
   .rename_i e S
    have f:∀{new:Hm},jH P hr zr id e s new=some r->∃i n,P.info? e=some i/\i.size=n/\0<n/\(∀y∈new,y.cells.length=n)/\new.length*i.bytes<=1099511627776:=by
     intro new A;unfold jH at A;split at A
     .rename_i n b d Y hb g;split at A
      .rename_i j;obtain⟨i,I,hi,B,rfl⟩:=lg g;refine⟨i,n,hi,by grind[sizeOf],j.1,fun y Z=>by grind,?_⟩;have C:i.bytes=b:=by grind[bytesOf]
       have T:aK=1099511627776:=rfl;grind
      grind
     grind
    split at a
    .rename_i k J;split at a
     .rename_i n d Y g;split at a
      .rename_i j;obtain⟨i,sz,hi,K,q,L,C⟩:=f a;obtain⟨i',I,M,B,rfl⟩:=lg g;rw[hi]at M;cases M;obtain⟨k',rfl⟩:=qR h1 Y;by_cases U:n=0
       .subst U;refine A2 (news:=[]) H G R o S h0 ⟨⟨i,_,hi,J,.inr ⟨⟨k,rfl⟩,⟨k',by simp⟩,by simp,by simp,I,B,by simp[Builtin.zeroCells]⟩⟩⟩ ⟨by rfl,by simp,by simp[fl]⟩ a
       have p:0<(eh I).cells.length:=by
        grind
       refine A2 (news:=(Builtin.zeroCells I.cells n).toList) H G R o S h0 ⟨⟨i,_,hi,J,.inr ⟨⟨k,rfl⟩,⟨k',by simp⟩,?_,?_,I,B,by simp⟩⟩⟩ (Ls (jN I) j.2 p) a
       .simp;have:aK=1099511627776:=rfl;omega
       omega
      grind
     grind
    .rename_i J;split at a
     .rename_i E;cases h1;obtain⟨i,sz,hi,K,q,L,C⟩:=f a
      have N:(E.toList.map fun c=>D.int .u8 (c.toNat:Int)).length=E.size:=by
       rw[ByteArray.toList_eq];simp
      have O:fl (E.toList.map fun c=>D.int .u8 (c.toNat:Int))=E.toList.map fun c=>D.int .u8 (c.toNat:Int):=by
       have:=OO (E.toList.map fun c=>(c.toNat:Int));rw[yv]at this;trivial
      refine A2 (news:=E.toList.map fun c=>Value.int .u8 (c.toNat:Int)) H G R o S h0 ⟨⟨i,_,hi,J,.inl ⟨.inr rfl,fun w' F=>?_⟩⟩⟩ ?_ a
      .rw[N];refine⟨by rfl,?_⟩;simp[Builtin.firstCells];obtain⟨⟨l⟩⟩:=E;simp
      rw[O];refine⟨by simp,fun k h4 h5=>?_,fun y Z=>?_⟩
      .simp;exact .int _ _
      obtain⟨c',_,rfl⟩:=zy.1 Z;rfl
     grind
    .rename_i e' J;split at a
     .rename_i l hw;obtain⟨i,sz,hi,K,q,L,C⟩:=f a;have W:=sq H G h1 hw;obtain⟨us,a2,v⟩:=N1 (P:=P) W (n:=l.length) (zD _) (by omega);rw[zZ (zD _)]at v;refine A2 (news:=us) H G R o S h0 ⟨⟨i,_,hi,J,.inl ⟨.inl ⟨e',rfl⟩,fun w' F=>?_⟩⟩⟩ v a;have W':=sq (H.same F) G (h1.mono (Ev.same F)) hw;grind[W'.len]
     grind
    grind
 grind
end Go.F
namespace Go.F
variable {P:Program}{c:Ctx}{m:Map}{pr:aM}{h hr:ab}{z zr:Frz}{w:World}
theorem Pg {t:ai}{ρ:Operand->Value}(a:pg m pr w t ρ)(l:List Operand):
 (l.map (ev t)).length=(l.map ρ).length/\∀k (_:k<(l.map (ev t)).length) (_:k<(l.map ρ).length),VR m pr w (l.map (ev t))[k] (l.map ρ)[k]:=
 ⟨by simp,fun k h1 b=>by simp;exact a _⟩
theorem Sb {ρ:Operand->Value}{o:Oper}{cl:Call}{b:Builtin}(a:o.op=.call cl)(c:cl.callee=.builtin b):
 ∃cs,(execOp ρ o).run P w=(builtin b cl.argTypes o.type cs (cl.args.map ρ)).run P w:=
 by
 simp[execOp,a,resolve,c,invoke];grind
theorem VR.isPtr {d:D}{v:Value}(a:VR m pr w d v)(b:(∃i j k,d=.ptr i j k)\/∃e i,d=.pl e i):∃p,v=.pointer (some p):=by
 rcases b with⟨i,j,k,rfl⟩ |⟨e,i,rfl⟩<;>cases a<;>exact⟨_,rfl⟩
theorem Tu {O:Pure}{o:Oper}{t:ai}{a:Act}{id:Nat}{r:Out}(H:HR c m h z w)(I:Sub hr h)(Q:∀id,hr id≠none->zr id=z id)(F:gM o.op=true->m id=none)
 (ht:∀i,VR m (Pr c m h z) w (t i) (a.tmps.getD i undef)) (a2:∀cl f,o.op=.call cl->cl.callee≠ .value f) (g:step P O o t hr zr id=some r):
 Sim c m h z w id r ((execOp a.eval o).run P w):=by
 have A:=tV ht;unfold step at g;cases G:o.op<;>simp only[G]at g F
 case move x=>simp at g;subst g;exact Sim.val H (by simp[execOp,G]) (A x)
 case assign x=>simp at g;subst g;exact Sim.val H (by simp[execOp,G]) (A x)
 case pick cc x y=>
  have C:=A cc;split at g
  .rename_i J;simp at g;subst g;rw[J]at C;have u:=C.bools rfl;exact Sim.val H (by simp_all[execOp,asBool]) (A x)
  .rename_i J;simp at g;subst g;rw[J]at C;have u:=C.bools rfl;exact Sim.val H (by simp_all[execOp,asBool]) (A y)
  grind
 case alloc e=>
  split at g
  .rename_i d E;split at g
   .rename_i C;have:=Rs (P:=P) H (F rfl) E C.1 C.2;grind[execOp]
   grind
  grind
 case box e x=>
  split at g
  .rename_i C;have:=Pt (P:=P) (e:=e) H (F rfl) (A x) C.1 C.2;grind[execOp]
  grind
 case build ty parts=>
  cases u:build P t ty parts.toList with
  |none=>grind
  |some d=>
   simp[u]at g;subst g;obtain⟨v,h1,B⟩:=run_build (P:=P) A u;exact Sim.val H (by grind[execOp,Sem.run_bind,Result.andThen_ok,Sem.run_pure]) B
 case buildSlice ty len parts=>
  split at g
  grind
  .rename_i e J;split at g
   .rename_i n d U E;split at g
    .rename_i C
     cases V:iZ t n (List.replicate len d) parts.toList with
     |none=>grind
     |some es=>
      have:=Q5 (P:=P) H (F rfl) A J U E C.1 C.2.1 C.2.2.1 C.2.2.2 V;grind[execOp]
    grind
   grind
 case load ty x=>
  cases u:load P hr ty (ev t x)with
  |none=>grind
  |some d=>
   simp[u]at g;subst g;obtain⟨v,h1,B⟩:=run_load (P:=P) H I (A x) u;exact Sim.val H (by grind[execOp,Sem.run_bind,Result.andThen_ok,Sem.run_pure]) B
 case store ty x v=>
  have:=X7 (P:=P) (id0:=id) H I Q (A x) (A v) g;grind[execOp]
 case nilCheck x=>
  have R:=A x
  have fin:∀d,ev t x=d->((∃i j k,d=.ptr i j k)\/∃e i,d=.pl e i)->Sim c m h z w id (out d) ((execOp a.eval o).run P w):=by
   intro d J g;rw[J]at R;obtain⟨p,hp⟩:=R.isPtr g;refine Sim.val H (v:=.pointer (some p)) (by simp_all[execOp]) ?_;grind
  grind
 case binOp op ty x y yt=>
  unfold binX at g
  have hy:(ri y&&isSlice P ty&&pk (ev t x))=true->a.eval y=.slice none 0 0/\pk (ev t x)=true/\∃e,P.underlying ty=some (.slice e):=by
   intro C;simp at C;obtain⟨⟨h1,B⟩,h3⟩:=C;refine⟨?_,h3,?_⟩
   .unfold ri at h1;split at h1
    .rfl
    grind
   grind[isSlice]
  split at g
  .rename_i C;obtain⟨h1,B,e,h3⟩:=hy C;obtain⟨W,X,_⟩:=LO (P:=P) (op:=.eql) (ox:=x) (oy:=y) (A x) B h3;simp at g;subst g;exact Sim.val H (by grind[execOp,Sem.run_bind,Result.andThen_ok,Sem.run_pure]) (.bool _)
  .rename_i C;obtain⟨h1,B,e,h3⟩:=hy C;obtain⟨W,_,X⟩:=LO (P:=P) (op:=.neq) (ox:=x) (oy:=y) (A x) B h3;simp at g;subst g;exact Sim.val H (by grind[execOp,Sem.run_bind,Result.andThen_ok,Sem.run_pure]) (.bool _)
  have S:(qH y&&isMap P ty)=true->a.eval y=.map none/\∃k e,P.underlying ty=some (.map k e):=by
   intro C;simp at C;obtain⟨h1,B⟩:=C;refine⟨?_,?_⟩
   .unfold qH at h1;split at h1
    .rfl
    grind
   grind[isMap]
  split at g
  .obtain⟨h1,k,e,h3⟩:=S (by omega)
   cases K:nZ (ev t x)with
   |none=>grind
   |some b=>
    obtain⟨W,X,_⟩:=HY (P:=P) (op:=.eql) (ox:=x) (oy:=y) (A x) K h3;simp[K]at g;subst g;exact Sim.val H (by grind[execOp,Sem.run_bind,Result.andThen_ok,Sem.run_pure]) (.bool _)
  .obtain⟨h1,k,e,h3⟩:=S (by omega)
   cases K:nZ (ev t x)with
   |none=>grind
   |some b=>
    obtain⟨W,_,X⟩:=HY (P:=P) (op:=.neq) (ox:=x) (oy:=y) (A x) K h3;simp[K]at g;subst g;exact Sim.val H (by grind[execOp,Sem.run_bind,Result.andThen_ok,Sem.run_pure]) (.bool _)
  generalize u:bin P _ ty (ev t x) (ev t y)=q at g
  cases q with
  |none=>grind
  |some d=>
   simp at g;subst g;obtain⟨v,h1,B⟩:=YH (P:=P) (A x) (A y) u;have hg:=Ws (P:=P) (ox:=x) (oy:=y) (A x) (A y) u;exact Sim.val H (by grind[execOp,Sem.run_bind,Result.andThen_ok,Sem.run_pure]) B
 case unOp op ty x=>
  cases u:un op (ev t x)with
  |none=>grind
  |some d=>
   simp[u]at g;subst g;obtain⟨v,h1,B⟩:=run_un (P:=P) (A x) u;exact Sim.val H (by grind[execOp,Sem.run_bind,Result.andThen_ok,Sem.run_pure]) B
 case convert s d x=>
  cases u:conv P hr s d (ev t x)with
  |none=>grind
  |some d'=>
   simp[u]at g;subst g;obtain⟨v,h1,B⟩:=Xo (P:=P) H I (A x) u;exact Sim.val H (by grind[execOp,Sem.run_bind,Result.andThen_ok,Sem.run_pure]) B
 case makeFunc fn x y=>
  split at g
  .rename_i f;simp at g;subst g;refine Sim.val H (v:=.func (.func f) (x.map a.eval) (y.map a.eval)) (by simp[execOp,G,Instr.makeFunc]) ?_;refine .fn f _ _ _ _ (by simp) (by simp) (fun k h1 B=>?_) (fun k h1 B=>?_)
   .simp;exact A _
   simp;exact A _
  grind
 case makeMap ty rr=>
  split at g
  .have:=R5 (P:=P) (ty:=ty) H (F rfl);grind[execOp]
  grind
 case makeSlice ty l cc=>
  split at g
  .rename_i e l' c' J L C;split at g
   .rename_i n b d U u E;split at g
    .rename_i D;have e1:=(A l).ints L;have e2:=(A cc).ints C;have:=XL (P:=P) H (F rfl) J U u E D.1 D.2.1 D.2.2.1 D.2.2.2.1 D.2.2.2.2.1 D.2.2.2.2.2;grind[execOp]
    grind
   grind
  grind
 case slice ty x lo hi mx=>
  have:=YA (P:=P) (id:=id) H I (A x) (CM A lo) (CM A hi) (CM A mx) g;grind[execOp]
 case fieldAddr s x f=>
  split at g
  .rename_i n V
   cases u:lA (ev t x) n with
   |none=>grind
   |some d=>
    simp[u]at g;subst g;obtain⟨v,h1,B⟩:=TA (P:=P) (A x) V u;exact Sim.val H (by grind[execOp,Sem.run_bind,Result.andThen_ok,Sem.run_pure]) B
  grind
 case indexAddr ty x ix=>
  cases u:indexAddr P hr ty (ev t x) (ev t ix)with
  |none=>grind
  |some d=>
   simp[u]at g;subst g;obtain⟨v,h1,B⟩:=UY (P:=P) H I (A x) (A ix) u;exact Sim.val H (by grind[execOp,Sem.run_bind,Result.andThen_ok,Sem.run_pure]) B
 case index ty x ix=>
  cases u:index P ty (ev t x) (ev t ix)with
  |none=>grind
  |some d=>
   simp[u]at g;subst g;obtain⟨v,h1,B⟩:=U5 (P:=P) (A x) (A ix) u;exact Sim.val H (by grind[execOp,Sem.run_bind,Result.andThen_ok,Sem.run_pure]) B
 case lookup ty x ix ok=>
  cases u:lookup P hr ty (ev t x) (ev t ix) ok with
  |none=>grind
  |some d=>
   simp[u]at g;subst g;obtain⟨v,h1,B⟩:=TW (P:=P) H I (A x) (A ix) u;exact Sim.val H (by grind[execOp,Sem.run_bind,Result.andThen_ok,Sem.run_pure]) B
 case mapUpdate ty x k v=>
  have:=XQ (P:=P) (id0:=id) H I Q (A x) (A k) (A v) g;grind[execOp]
 case extract x i=>
  have R:=A x;split at g
  .rename_i l J;rw[J]at R;obtain⟨vs,Y,L,M⟩:=R.tups
   cases u:l[i]? with
   |none=>grind
   |some d=>
    simp[u]at g;subst g;obtain⟨hi,rfl⟩:=yB.1 u;exact Sim.val H (v:=vs[i]'(by omega)) (by simp[execOp,G,Y,Instr.extract,yC (show i<vs.size by omega)]) (M i hi (by omega))
  grind
 case call cl=>
  cases C:cl.callee with
  |value f=>grind
  |invoke rr mm=>grind
  |builtin b=>
   obtain⟨L,M⟩:=Pg A cl.args.toList;have N:cl.args.map a.eval=(cl.args.toList.map a.eval).toArray:=by grind
   have T:cl.argTypes=cl.argTypes.toList.toArray:=rfl;obtain⟨cs,Z⟩:=Sb (P:=P) (w:=w) (ρ:=a.eval) G C;rw[Z,N,T];simp only[C]at g;cases b<;>simp only[reduceCtorEq]at g
   case append=>
    have:=VG (P:=P) (ty:=o.type) H I Q (F (by grind[gM])) L M g
    trivial
   case copy=>
    have:=Tg (P:=P) (ty:=o.type) (id0:=id) H I Q L M g
    trivial
   case clear=>
    have:=Tb (P:=P) (ty:=o.type) (id0:=id) H I Q L M g
    trivial
   case len=>
    cases u:sD P hr cl.argTypes.toList (cl.args.toList.map (ev t))with
    |none=>grind
    |some d=>
     simp[u]at g;subst g;obtain⟨v,h1,B⟩:=Tk (P:=P) H I L M u o.type;exact Sim.val H (by grind[builtin,Sem.run_bind,Result.andThen_ok,Sem.run_pure]) B
   case cap=>
    cases u:uA P cl.argTypes.toList (cl.args.toList.map (ev t))with
    |none=>grind
    |some d=>
     simp[u]at g;subst g;obtain⟨v,h1,B⟩:=Tw (P:=P) L M u o.type;exact Sim.val H (by grind[builtin,Sem.run_bind,Result.andThen_ok,Sem.run_pure]) B
   case max=>
    cases u:mI true (cl.args.toList.map (ev t))with
    |none=>grind
    |some d=>
     simp[u]at g;subst g;obtain⟨v,h1,B⟩:=OW (P:=P) L M u;exact Sim.val H (by grind[builtin,Builtin.max_,Sem.run_bind,Result.andThen_ok,Sem.run_pure]) B
   case min=>
    cases u:mI false (cl.args.toList.map (ev t))with
    |none=>grind
    |some d=>
     simp[u]at g;subst g;obtain⟨v,h1,B⟩:=OW (P:=P) L M u;exact Sim.val H (by grind[builtin,Builtin.min_,Sem.run_bind,Result.andThen_ok,Sem.run_pure]) B
 all_goals (cases g)
end Go.F
namespace Go.F
variable {P:Program}{c:Ctx}{m:Map}{pr:aM}{h hr:ab}{z z':Frz}{w:World}
theorem qh {α β:Type}{f:α->Option β}:∀{l:List α} {a:List β},l.mapM f=some a->a.length=l.length/\∀i (h1:i<l.length) (b:i<a.length),f l[i]=some a[i]:=by
 intro l
 induction l with
 |nil=>simp
 |cons x l c=>
  cases d:f x with
  |none=>grind
  |some y=>
   cases e:l.mapM f with
   |none=>grind
   |some ys=>
    grind
def iw (e:D)(a:List Value):Value:=
 match e with
 |.agg _=> .agg a.toArray
 |_=>a.headD undef
theorem Pa {e:D}{a:List Value}(b:Cells m pr w e.cells a):VR m pr w e (iw e a)/\(iw e a).cells.toList=a:=by
 cases e with
 |agg l=>exact⟨b.agg,by rfl⟩
 |_=>
  have f:=b.len;simp only[D.cells,yL]at f
  match a,f with
  |[v],_=>
   have c:=b.vr 0 (by simp[D.cells]) (by simp);have g:=b.one _ (z8.2 rfl);simp only[D.cells,List.getElem_cons_zero]at c;refine⟨by simpa[iw]using c,?_⟩;have d:=c.oneCell g;simp only[iw,List.headD_cons];cases v<;>first|rfl|(simp[oneV]at d)
def tO (c:Ctx)(m:Map)(h:ab)(z':Frz)(w:World)(d a:D)(v:Value):Prop:=
 VR aS (Pr c m h z') w a v/\(d.one=true->a.one=true)/\(d.sto=true->a.sto=true)/\a.cells.length=d.cells.length
theorem MU (H:HR c m h z w){id b esz:Nat}{es:Hm}(d:m id=some (b,esz))(k:h id=some (.row es esz))(g:c.B<=b)(l:z' id=aV h id){o:Nat}(n:o<es.length*esz):Pr c m h z' b o:=by
 refine .inr ⟨g,fun⟨a,e,i,j,p⟩=>?_⟩;have f:a=id:=H.inj a id _ _ j (by grind) i d rfl;grind[aV]
theorem sP (H:HR c m h z w)(W:Sub hr h)(ev:Ev m (Pr c m h z) w m (Pr c m h z') w):∀(n:Nat) (d d':D) (v:Value),VR m (Pr c m h z) w d v->aG hr n d=some d'->(∀id∈aN hr n d,z' id=aV h id)->
 tO c m h z' w d d' v:=by
 intro n
 induction n with
 |zero=>intro d d' v _ g;trivial
 |succ n ih=>
  intro d d' v A g B
  have J:∀(l y:Hm) (vs:Array Value),l.mapM (aG hr n)=some y->l.length=vs.size->(∀k (_:k<l.length) (_:k<vs.size),VR m (Pr c m h z) w l[k] vs[k])->(∀x∈l,∀id∈aN hr n x,z' id=aV h id)->
   y.length=vs.size/\(∀k (_:k<y.length) (_:k<vs.size),VR aS (Pr c m h z') w y[k] vs[k])/\((∀x∈l,x.one=true)->∀x∈y,x.one=true):=by
   intro l y vs G hl N a4;obtain⟨h1,I⟩:=qh G;refine⟨by omega,fun k u e8=>?_,fun s x K=>?_⟩
   .exact(ih _ _ _ (N k (by omega) e8) (I k (by omega) u) (a4 _ (zE _))).1
   obtain⟨k,u,rfl⟩:=ze.1 K;exact(ih _ _ _ (N k (by omega) (by omega)) (I k (by omega) u) (a4 _ (zE _))).2.1 (s _ (zE _))
  cases d with
  |bool b=>simp[aG]at g;subst g;exact⟨A.scalar rfl,fun _=>rfl,fun _=>rfl,rfl⟩
  |int k b=>simp[aG]at g;subst g;exact⟨A.scalar rfl,fun _=>rfl,fun _=>rfl,rfl⟩
  |float k b=>simp[aG]at g;subst g;exact⟨A.scalar rfl,fun _=>rfl,fun _=>rfl,rfl⟩
  |str b=>simp[aG]at g;subst g;exact⟨A.scalar rfl,fun _=>rfl,fun _=>rfl,rfl⟩
  |nilsl=>
   simp[aG]at g;subst g;cases A;exact⟨.lst0 _ _,fun _=>rfl,fun _=>rfl,rfl⟩
  |lst l=>
   simp[aG]at g;subst g;refine⟨?_,fun _=>rfl,fun _=>rfl,rfl⟩
   cases A with
   |lst0 a cap=>exact .lst0 a cap
   |lst _ b o cap esz cv e9 g0 a5 R hc A s=>
    exact .lst l b o cap esz cv e9 g0 a5 R (fun k u=>let ⟨p,q⟩:=ev.cell b (o+k) (cv k) (hc k u).2 (hc k u).1;⟨q,p⟩) (fun k u=>(A k u).mono ev.bare) s
  |opq x=>simp[aG]at g;subst g;cases A with|opq _ ho O=>exact⟨.opq _ ho O,fun _=>rfl,fun _=>rfl,rfl⟩
  |pl e o=>
   simp[aG]at g;subst g;refine⟨?_,fun _=>rfl,fun _=>rfl,rfl⟩
   cases A with
   |pl _ _ b o' cv hc A s=>
    exact .pl e o b o' cv (fun k u=>let ⟨p,q⟩:=ev.cell b (o'+k) (cv k) (hc k u).2 (hc k u).1;⟨q,p⟩) (fun k u=>(A k u).mono ev.bare) s
  |mlst ks vs=>
   simp[aG]at g;subst g;refine⟨?_,fun _=>rfl,fun _=>rfl,rfl⟩
   cases A with
   |mlst _ _ r F es hw hp h1 I u A=>
    obtain⟨p,q⟩:=ev.obj r es F hp hw;exact .mlst ks vs r F es q p h1 I u (fun i h3 X=>(A i h3 X).mono ev.bare)
  |ptr id i o=>
   cases o with
   |succ o=>trivial
   |zero=>
   simp only[aG]at g;split at g
   .rename_i es O;split at g
    .rename_i e he;split at g
     .rename_i ho
      cases G:aG hr n e with
      |none=>grind
      |some e'=>
       simp[G]at g;subst g;have hz:z' id=aV h id:=B id (by grind[aN]);refine⟨?_,fun _=>rfl,fun _=>rfl,rfl⟩
       cases A with
       |ptr _ _ _ b S E=>
        obtain⟨b',C',t',P,g2,g3,g4⟩:=H.rowR (W _ _ O) E;obtain⟨r1,T,r3,r4,r5⟩:=g4;rw[P]at E;cases E;obtain⟨hi,L⟩:=yB.1 he;have k3:e.cells=[e]:=by cases e<;>first|rfl|trivial
        have b4:=cY T;have g6:i<(fl es).length:=by omega
        have hg:(fl es)[i]=e:=by
         have:=fO T he (j:=0) (by omega);grind
        have g8:i<C'.size:=by omega
        have b5:=r4 i g6 g8;rw[hg]at b5;have hS:=ih e e' _ b5 G (fun x K=>B x (by simp[aN];grind));obtain⟨s1,s2,s3,s4⟩:=hS;have k6:=s2 ho;have i9:e'.cells=[e']:=by cases e'<;>first|rfl|trivial
        have k7:=MU H P (W _ _ O) g2 hz (o:=i) (by omega)
        have g9:w.cell? ⟨b,i,none⟩=some C'[i]:=by
         grind[World.cell?]
        have:=VR.pl (m:=aS) (pr:=Pr c m h z') (w:=w) e' 0 b i (fun _=>C'[i]) (fun k u=>by
         simp_all) (fun k u=>by
         grind) (fun x K=>by grind)
        grind
     grind
    grind
   grind
  |bad=>trivial
  |agg l=>
   simp only[aG]at g
   cases G:l.mapM (aG hr n)with
   |none=>grind
   |some y=>
    simp[G]at g;subst g;obtain⟨vs,rfl,hl,N,s⟩:=A.aggs;obtain⟨h1,I,h3⟩:=J l y vs G hl N (fun x K id hi=>B id (by grind[aN]));exact⟨.agg y vs h1 I (h3 s),fun ho=>by trivial,fun _=>rfl,by grind[D.cells]⟩
  |tup l=>
   simp only[aG]at g
   cases G:l.mapM (aG hr n)with
   |none=>grind
   |some y=>
    simp[G]at g;subst g;obtain⟨vs,rfl,hl,N⟩:=A.tups;obtain⟨h1,I,_⟩:=J l y vs G hl N (fun x K id hi=>B id (by grind[aN]));exact⟨.tup y vs h1 I,fun ho=>by trivial,fun ho=>by trivial,rfl⟩
  |fn f la lc=>
   simp only[aG]at g;split at g
   .rename_i b6 b7 ha h0;simp at g;subst g
    cases A with
    |fn _ _ _ va vc h1 I h3 X=>
     obtain⟨a1,a2,_⟩:=J la b6 va ha h1 h3 (fun x K id hi=>B id (by simp only[aN];grind));obtain⟨b1,b2,_⟩:=J lc b7 vc h0 I X (fun x K id hi=>B id (by simp only[aN];grind));exact⟨.fn f b6 b7 va vc a1 b1 a2 b2,fun _=>rfl,fun _=>rfl,rfl⟩
   grind
  |mref id=>
   simp only[aG]at g;split at g
   .rename_i ks vs O
    cases G:vs.mapM (aG hr n)with
    |none=>grind
    |some vs'=>
     simp[G]at g;subst g;obtain⟨r,es,F,P,g2,g3,g4⟩:=H.mp id ks vs (W _ _ O);obtain⟨m1,m2,m3,m4⟩:=g4;have hz:z' id=aV h id:=B id (by grind[aN])
     cases A with
     |mref _ r' E=>
      rw[P]at E;cases E
      obtain⟨a1,a2,_⟩:=J vs vs' (es.map (·.val)) G (by grind) (fun k h1 I=>by grind)
       (fun x K i hi=>B i (by simp[aN];grind))
      refine⟨.mlst ks vs' r F es g3 ?_ m1 (by grind) m3 (fun i h1 I=>by grind),fun _=>rfl,fun _=>rfl,rfl⟩;refine .inr ⟨g2,fun⟨b8,S,w1,w2,w3⟩=>?_⟩;have b9:b8=id:=H.inj b8 id _ _ w2 (by rw[W _ _ O];simp) w1 P rfl;subst b9;rw[P]at w1;cases w1;rw[hz]at w3;simp[aV,W _ _ O]at w3
   grind
  |ref id off len=>
   simp only[aG]at g;split at g
   .rename_i es esz O;split at g
    .rename_i h8
     cases G:((es.drop off).take len).mapM (aG hr n)with
     |none=>grind
     |some y=>
      simp[G]at g;subst g;have hz:z' id=aV h id:=B id (by grind[aN]);refine⟨?_,fun _=>rfl,fun _=>rfl,rfl⟩
      cases A with
      |vnil _ a=>simp at G;subst G;exact .lst0 _ _
      |ref _ _ _ b S cap C t f E c0 R j4=>
       obtain⟨b',C',t',P,g2,g3,g4⟩:=H.rowR (W _ _ O) E;obtain⟨r1,T,r3,r4,r5⟩:=g4;rw[P]at E;cases E;rw[g3]at c0;cases c0;obtain⟨q1,q2⟩:=qh G;have h9:((es.drop off).take len).length=len:=by grind
       rw[h9]at q1;by_cases i0:len=0
       .subst i0;have:y=[]:=by grind
        subst this;exact .lst0 _ _
       have c3:∀i (hi:i<((es.drop off).take len).length),((es.drop off).take len)[i]=es[off+i]'(by omega):=fun i hi=>by simp
       have U:∀i (hi:i<len),∃e e':D,es[off+i]?=some e/\y[i]?=some e'/\e.cells.length=esz/\tO c m h z' w e e' (iw e ((C.toList.drop ((off+i) *esz)).take esz))/\(iw e ((C.toList.drop ((off+i) *esz)).take esz)).cells.toList=(C.toList.drop ((off+i) *esz)).take esz/\e.sto=true:=by
        intro i hi;have c4:off+i<es.length:=by omega
        have L:es[off+i]?=some es[off+i]:=zK c4;have Y:es[off+i].cells.length=esz:=T _ (zE _);have i1:(off+i+1) *esz<=es.length*esz:=zF _ c4;rw[y3]at i1;have b4:=cY T
        have M:Cells m (Pr c m h z) w es[off+i].cells ((C.toList.drop ((off+i) *esz)).take esz):=by
         refine⟨by grind,fun k h1 I=>?_,fun x K=>?_⟩
         .have hg:(fl es)[(off+i) *esz+k]=es[off+i].cells[k]:=by
           have:=fO T L (j:=k) (by omega);grind
          grind
         obtain⟨j,hj,rfl⟩:=ze.1 K;have:=fO T L (j:=j) (by omega);grind
        obtain⟨Z,e2⟩:=Pa M
        have c5:es[off+i].sto=true:=by
         have s:=M.one
         cases he:es[off+i]with
         |tup x=>rw[he]at s;have:=s (.tup x) (by simp[D.cells]);trivial
         |bad=>rw[he]at s;trivial
         |_=>rfl
        have hq:=q2 i (by omega) (by omega);rw[c3 i (by omega)]at hq;refine⟨es[off+i],y[i]'(by omega),L,zK (by omega),Y,ih _ _ _ Z hq (fun x K=>B x ?_),e2,c5⟩;simp[aN];grind
       have a0:∀x∈y,x.cells.length=esz:=by
        intro x K;obtain⟨i,hi,rfl⟩:=ze.1 K;obtain⟨e,e',h1,I,h3,X,_,_⟩:=U i (by omega);rw[zK hi]at I;cases I;rw[X.2.2.2];omega
       have c6:=cY a0
       have c7:∀k (u:k<(fl y).length),VR aS (Pr c m h z') w (fl y)[k] (C.getD (off*esz+k) undef)/\(fl y)[k].one=true:=by
        intro k u;have c8:k/esz<len:=ym (by grind);have V:k%esz<esz:=zI _ r1;have l6:k/esz*esz+k%esz=k:=by simp[zx,yH]
        obtain⟨e,e',h1,I,h3,X,h5,h6⟩:=U (k/esz) c8;obtain⟨s1,s2,s3,s4⟩:=X;obtain⟨t1,t2,t3⟩:=s1.cells (s3 h6);have hg:=fO a0 I (j:=k%esz) V;have c9:k%esz<(iw e ((C.toList.drop ((off+k/esz) *esz)).take esz)).cells.size:=by omega
        have j7:(iw e ((C.toList.drop ((off+k/esz) *esz)).take esz)).cells[k%esz]=C.getD (off*esz+k) undef:=by
         have Z:(iw e ((C.toList.drop ((off+k/esz) *esz)).take esz)).cells.toList[k%esz]?=((C.toList.drop ((off+k/esz) *esz)).take esz)[k%esz]?:=by rw[h5]
         rw[xj V,List.getElem?_drop]at Z;rw[show(off+k/esz) *esz+k%esz=off*esz+k by grind]at Z;simp at Z;rw[yC c9]at Z;simp[wV,<-Z]
        grind
       have i2:VR aS (Pr c m h z') w (.lst y) (.slice (some ⟨b,off*esz,none⟩) y.length cap):=by
        refine .lst y b (off*esz) cap esz (fun k=>C.getD (off*esz+k) undef) (fun e0=>by grind) a0 r1 (by omega) (fun k u=>?_) (fun k u=>(c7 k u).1) (fun x K=>?_)
        .have i3:=u;rw[c6,q1]at i3;have Q:(off+len) *esz<=es.length*esz:=zF _ h8;rw[yX]at Q;have b4:=cY T;have l9:off*esz+k<C.size:=by omega
         refine⟨?_,MU H P (W _ _ O) g2 hz (by omega)⟩;rw[cell?_row g3];simp_all
        obtain⟨k,u,rfl⟩:=ze.1 K;grind
       grind
    grind
   grind
end Go.F
namespace Go.F
theorem DR (t:ai)(a:Option Tmp)(v:D)(d:Nat):put t a v d=if a=some d then v else t d:=by
 cases a with
 |none=>rfl
 |some x=>
  simp[put,qr];grind
theorem put_comm (t:ai){x y:Option Tmp}{v u:D}(h:∀d,x=some d->y≠some d):put (put t x v) y u=put (put t y u) x v:=by
 grind[DR]
theorem apart_spec {ops:Array Oper}{x y:Oper}(h:apart ops x y=true):
 (∀d,x.dst=some d->d∉looks ops y)/\(∀d,x.dst=some d->y.dst≠some d)/\(∀d,y.dst=some d->d∉looks ops x):=by
 simp[apart]at h;grind
theorem p4 {ops:Array Oper}{o:Oper}{t:ai}{a:Option Tmp}{v:D}(h:∀d,a=some d->d∉looks ops o):
 ∀d∈looks ops o,put t a v d=t d:=by
 grind[DR]
theorem CW {ops:Array Oper}{o:Oper}{t t':ai}(h:∀d∈looks ops o,t d=t' d):∀x∈o.op.operands,ev t x=ev t' x:=by
 intro x a;refine XP fun d b=>h d ?_;simp[looks];exact .inl ⟨x,by grind,by grind⟩
theorem J1 {ops:Array Oper}{o:Oper}{t t':ai}(h:∀d∈looks ops o,t d=t' d):wanted t ops o=wanted t' ops o:=by
 grind[wanted,looks]
theorem Yx {E:Env}{a:Bool}{o:Oper}{t t':ai}(h:∀x∈o.op.operands,ev t x=ev t' x):de E a o t=de E a o t':=by
 unfold de;cases d:o.op<;>simp only
 case call c=>
  rw[d]at h;simp only[Op.operands]at h;have h1:c.args.toList.map (ev t)=c.args.toList.map (ev t'):=E1 fun x e=>h x (by simp[Call.operands,Array.mem_toList_iff.1 e])
  cases g:c.callee with
  |value f=>
   have i:=h f (by simp[Call.operands,g]);grind
  |invoke r m=>rfl
  |builtin b=>rfl
def core (P:Program)(E:Env)(a:Bool)(b:Sp)(ops:Array Oper)(o:Oper)(i:Nat)(base:Nat)(s:St):Option (D×ab×Frz×Nat):=
 match wanted s.tmps ops o with
 |some true=>
  match de E a o s.tmps with
  |some (f,args)=>E.shar f args s.heap s.frz s.next
  |none=>
   match step P E.pure o s.tmps (cD a b ops base i o s.heap) (ju a b ops base i o s.frz) (base+i)with
   |some r=>some (r.v,aJ s.heap r.hp,aJ s.frz r.fz,s.next)
   |none=>none
 |some false=>some (.tup [],s.heap,s.frz,s.next)
 |none=>none
def fin (t:ai)(a:Option Tmp)(x:D×ab×Frz×Nat):St:=⟨put t a x.1,x.2.1,x.2.2.1,x.2.2.2⟩
variable {P:Program}{E:Env}{draw:Bool}{sp:Sp}{ops:Array Oper}{base:Nat}
theorem jn (o:Oper)(i:Nat)(s:St):one P E draw sp ops o i base s=(core P E draw sp ops o i base s).map (fin s.tmps o.dst):=by
 unfold one core
 match wanted s.tmps ops o with
 |none=>rfl
 |some false=>rfl
 |some true=>
  cases de E draw o s.tmps with
  |some x=>
   obtain⟨f,args⟩:=x;simp;cases E.shar f args s.heap s.frz s.next<;>rfl
  |none=>
   cases step P E.pure o s.tmps (cD draw sp ops base i o s.heap) (ju draw sp ops base i o s.frz) (base+i)<;>rfl
theorem M3 {o:Oper}{i:Nat}{s s':St}(a:∀d∈looks ops o,s.tmps d=s'.tmps d)(b:s.heap=s'.heap)(c:s.frz=s'.frz)(e:s.next=s'.next):
 core P E draw sp ops o i base s=core P E draw sp ops o i base s':=by
 unfold core;rw[J1 a,Yx (CW a),Lb (CW a),b,c,e]
theorem Vs {o:Oper}{t:ai}(h:mn E.shared o.op=false):de E true o t=none:=by
 grind[de,mn]
def act (P:Program)(E:Env)(draw:Bool)(sp:Sp)(ops:Array Oper)(o:Oper)(i:Nat)(base:Nat)(t:ai)(h:ab)(z:Frz):Option Out:=
 match wanted t ops o with
 |some true=>step P E.pure o t (cD draw sp ops base i o h) (ju draw sp ops base i o z) (base+i)
 |some false=>some (out (.tup []))
 |none=>none
theorem nS {o:Oper}{i:Nat}{s:St}(a:mn E.shared o.op=false):
 core P E true sp ops o i base s=(act P E true sp ops o i base s.tmps s.heap s.frz).map fun r=>(r.v,aJ s.heap r.hp,aJ s.frz r.fz,s.next):=by
 unfold core act;rw[Vs a];split
 grind
 .rfl
 rfl
theorem AO {o:Oper}{i:Nat}{t t':ai}{h:ab}{z:Frz}(a:∀d∈looks ops o,t d=t' d):
 act P E draw sp ops o i base t h z=act P E draw sp ops o i base t' h z:=by
 unfold act;rw[J1 a,Lb (CW a)]
theorem wr_rd {o:Op}(h:eG o=false):iV o=false:=by
 cases o<;>simp[eG,iV]at h⊢;grind
theorem Yi {o:Oper}{i:Nat}{h:ab}{id:Nat}(a:cD true sp ops base i o h id≠none):cO sp ops base i o id=true:=by
 grind[cD]
theorem S2 {o:Oper}{i:Nat}{h:ab}{id:Nat}(a:cO sp ops base i o id=true):aV (cD true sp ops base i o h) id=aV h id:=by
 grind[aV,cD]
theorem Bu {o:Oper}{i:Nat}{t:ai}{h:ab}{z:Frz}{r:Out}(hr:act P E true sp ops o i base t h z=some r):
 (∀p∈r.hp,(iV o.op=true/\cO sp ops base i o p.1=true)\/(gM o.op=true/\p.1=base+i))/\
 (∀p∈r.fz,(eG o.op=true/\p.2=aV h p.1/\cO sp ops base i o p.1=true)\/(gM o.op=true/\p.1=base+i)):=by
 unfold act at hr;split at hr
 .obtain⟨h1,a⟩:=PH hr;grind[Yi,S2]
 grind[out];grind
theorem Dt (i:Nat)(o:Oper){j:Nat}(e:j<ops.size):cO sp ops base i o (base+j)=nG sp ops i o j:=by
 unfold cO nG
 have nb:∀{a b:Nat},a≠b->Nat.beq a b=false:=by
  grind[Nat.eq_of_beq_eq_true]
 cases sp.lookup i with
 |some x=>
  cases x with
  |hide=>rfl
  |«at» d=>grind
  |but l=>
   have h1:Nat.blt (base+j) base=false:=by
    cases c:Nat.blt (base+j) base with
    |false=>rfl
    |true=>have:=zk c;omega
   have h3:Nat.ble (base+ops.size) (base+j)=false:=by
    cases c:Nat.ble (base+ops.size) (base+j)with
    |false=>rfl
    |true=>have:=zk c;omega
   grind
 |none=>
  cases mg ops i o with
  |some a=>
   by_cases h:j=a
   simp_all;grind
  |none=>
   have h1:Nat.blt (base+j) base=false:=by
    cases c:Nat.blt (base+j) base with
    |false=>rfl
    |true=>have:=zk c;omega
   have h3:Nat.ble (base+ops.size) (base+j)=false:=by
    cases c:Nat.ble (base+ops.size) (base+j)with
    |false=>rfl
    |true=>have:=zk c;omega
   grind
theorem BV {a b:Nat}(h:Nat.beq a b=true):a=b:=zl h
theorem Um {i a:Nat}{o:Oper}(h:mg ops i o=some a):a<ops.size:=by
 grind[mg]
theorem Cg {j i:Nat}{f g:Oper}(h:uq sp ops j f i g=false){id:Nat}(h1:cO sp ops base j f id=true):cO sp ops base i g id=false:=by
 unfold uq at h
 have c:∀{a:Nat} {l:List Nat} {id:Nat},l.any (Nat.beq a)=true->Nat.beq (id+a+1) base=true->(l.all fun d=>!Nat.beq (id+d+1) base)=false:=by
  grind[BV]
 cases k:sp.lookup j with
 |some x=>
  cases x with
  |hide=>grind[cO]
  |«at» a=>
   cases e:sp.lookup i with
   |none=>grind
   |some y=>
    cases y with
    |hide=>grind[cO]
    |«at» b=>
     grind[cO,BV,Nat.beq,Nat.beq_refl]
    |but l=>
     simp only[k,e,Bool.not_eq_false']at h;simp only[cO,k]at h1;simp[cO,e,c h h1]
  |but l=>
   cases e:sp.lookup i with
   |none=>grind
   |some y=>
    cases y with
    |hide=>grind[cO]
    |«at» a=>
     simp_all[cO]
    |but m=>grind
 |none=>
  grind[cO,BV,Dt,Um,nG]
theorem Bx {j i:Nat}{a b:Oper}(h:uq sp ops j a i b=false){id:Nat}(h1:cO sp ops base i b id=true):cO sp ops base j a id=false:=by
 grind[Cg]
theorem QZ {o:Oper}{i:Nat}{h:ab}{l:List (Nat×Option Blk)}(a:∀p∈l,cO sp ops base i o p.1=false):
 cD true sp ops base i o (aJ h l)=cD true sp ops base i o h:=by
 grind[cD,uW]
theorem UE {o:Oper}{i:Nat}{z:Frz}{l:List (Nat×Nat)}(a:∀p∈l,cO sp ops base i o p.1=false):
 ju true sp ops base i o (aJ z l)=ju true sp ops base i o z:=by
 grind[ju,uW]
theorem HE {x y:Oper}{j i:Nat}{t a:ai}{h:ab}{z:Frz}{r:Out}(hr:act P E true sp ops x j base a h z=some r)
 (c:iV x.op=true->eG y.op=true->∀id,cO sp ops base j x id=true->cO sp ops base i y id=false)
 (d:eG x.op=true->iV y.op=true->∀id,cO sp ops base j x id=true->cO sp ops base i y id=false)
 (e:gM x.op=true->nG sp ops i y j=false) (b:j<ops.size):
 act P E true sp ops y i base t (aJ h r.hp) (aJ z r.fz)=act P E true sp ops y i base t h z:=by
 grind[Bu,act,Fa,QZ,XO,UE,Dt]
theorem Nm {o:Oper}{i:Nat}{t:ai}{h h':ab}{z z':Frz}(a:jx o.op=true):act P E draw sp ops o i base t h z=act P E draw sp ops o i base t h' z':=by
 unfold act;simp[jx]at a;grind[Fa]
theorem FM {o:Oper}{i:Nat}{t:ai}{h:ab}{z:Frz}{r:Out}(a:jx o.op=true)(hr:act P E true sp ops o i base t h z=some r):r.hp=[]/\r.fz=[]:=by
 simp[jx]at a;obtain⟨h1,c⟩:=Bu hr;have d:=wr_rd a.1;constructor
 .cases b:r.hp with
  |nil=>rfl
  |cons p l=>grind
 cases b:r.fz with
 |nil=>rfl
 |cons p l=>grind
theorem KM {o:Op}{sh:FuncId->Bool}(h:jx o=true):mn sh o=false:=by
 simp[jx]at h;cases o<;>simp[mn];grind[eG]
theorem To {x y:Oper}{j i:Nat}{s f g:St}(d:jx x.op=true)(e:apart ops x y=true)
 (h1:one P E true sp ops x j base s=some f) (h:one P E true sp ops y i base f=some g):
 ∃a,one P E true sp ops y i base s=some a/\one P E true sp ops x j base a=some g:=by
 obtain⟨k,o,l⟩:=apart_spec e;have b:=KM (sh:=E.shared) d;rw[jn,nS b]at h1
 cases hr:act P E true sp ops x j base s.tmps s.heap s.frz with
 |none=>grind
 |some r=>
  obtain⟨m,n⟩:=FM d hr;rw[hr]at h1;simp[m,n,aJ,fin]at h1;subst h1;rw[jn]at h;rw[M3 (s:=⟨put s.tmps x.dst r.v,s.heap,s.frz,s.next⟩) (s':=s) (p4 k) rfl rfl rfl]at h
  cases p:core P E true sp ops y i base s with
  |none=>grind
  |some c=>
   refine⟨fin s.tmps y.dst c,by grind[jn],?_⟩;rw[jn,nS b]
   have:act P E true sp ops x j base (fin s.tmps y.dst c).tmps (fin s.tmps y.dst c).heap (fin s.tmps y.dst c).frz=some r:=by
    simp only[fin];rw[AO (t':=s.tmps) (p4 l),Nm d (h':=s.heap) (z':=s.frz)];omega
   grind[aJ,fin,put_comm]
theorem Xx {x y:Oper}{j i:Nat}{s h k:St}(d:jx y.op=true)(f:apart ops x y=true)
 (h1:one P E true sp ops x j base s=some h) (b:one P E true sp ops y i base h=some k):
 ∃a,one P E true sp ops y i base s=some a/\one P E true sp ops x j base a=some k:=by
 obtain⟨m,q,n⟩:=apart_spec f;have g:=KM (sh:=E.shared) d;rw[jn]at h1
 cases l:core P E true sp ops x j base s with
 |none=>grind
 |some c=>
  rw[l]at h1;simp at h1;subst h1;rw[jn,nS g]at b
  have e:act P E true sp ops y i base (fin s.tmps x.dst c).tmps (fin s.tmps x.dst c).heap (fin s.tmps x.dst c).frz=act P E true sp ops y i base s.tmps s.heap s.frz:=by
   simp only[fin];rw[AO (t':=s.tmps) (p4 m),Nm d (h':=s.heap) (z':=s.frz)]
  rw[e]at b
  cases hr:act P E true sp ops y i base s.tmps s.heap s.frz with
  |none=>grind
  |some r=>
   obtain⟨o,p⟩:=FM d hr;rw[hr]at b;simp[o,p,aJ]at b;refine⟨fin s.tmps y.dst (r.v,s.heap,s.frz,s.next),by grind[jn,nS,aJ],?_⟩;rw[jn,M3 (s:=fin s.tmps y.dst (r.v,s.heap,s.frz,s.next)) (s':=s) (p4 n) rfl rfl rfl,l];grind[fin,put_comm]
theorem swap {x y:Oper}{j i:Nat}{s t u:St}(A:j≠i)(l:j<ops.size)(m:i<ops.size)(d:tD E.shared sp ops j x i y=true)
 (h1:one P E true sp ops x j base s=some t) (w:one P E true sp ops y i base t=some u):
 ∃e,one P E true sp ops y i base s=some e/\one P E true sp ops x j base e=some u:=by
 simp only[tD,zJ,xH,Bool.and_eq_false_imp]at d;obtain⟨⟨⟨⟨⟨n,B⟩,C⟩,D⟩,f⟩,g⟩:=d;by_cases F:jx x.op=true
 grind[To];by_cases G:jx y.op=true
 grind[Xx]
 have h:mn E.shared x.op=false:=by
  grind
 have k:mn E.shared y.op=false:=by
  grind
 obtain⟨H,J,I⟩:=apart_spec n
 have a:∀{o p:Bool},o=true->p=true->((o=iV x.op/\p=eG y.op)\/(o=iV y.op/\p=eG x.op))->uq sp ops j x i y=false:=by
  grind
 rw[jn,nS h]at h1
 cases hr:act P E true sp ops x j base s.tmps s.heap s.frz with
 |none=>grind
 |some r=>
  rw[hr]at h1;simp[fin]at h1;subst h1;rw[jn,nS k]at w
  rw[AO (t':=s.tmps) (p4 H),
   HE hr (fun b c id=>Cg (a b c (.inl ⟨rfl,rfl⟩))) (fun b c id=>Cg (a c b (.inr ⟨rfl,rfl⟩))) f l]at w
  cases z:act P E true sp ops y i base s.tmps s.heap s.frz with
  |none=>grind
  |some q=>
   refine⟨⟨put s.tmps y.dst q.v,aJ s.heap q.hp,aJ s.frz q.fz,s.next⟩,by rw[jn,nS k,z];rfl,?_⟩;rw[jn,nS h]
   rw[AO (t':=s.tmps) (p4 I),
    HE z (fun b c id=>Bx (a b c (.inr ⟨rfl,rfl⟩))) (fun b c id=>Bx (a c b (.inl ⟨rfl,rfl⟩))) g m,hr]
   grind[fin,put_comm,Bu,Pe,wr_rd,Bx,Dt]
end Go.F
