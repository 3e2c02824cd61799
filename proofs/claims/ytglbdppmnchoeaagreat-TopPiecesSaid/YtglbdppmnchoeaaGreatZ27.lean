/- Part 27. -/
import Derived.Test.YtglbdppmnchoeaaGreatZ26
set_option linter.all false
namespace Go.F
section
variable {P:Program}{T:Tab}{sh:Shr}{t:ai}{gh h:ab}{gz z:Frz}{nx id:Nat}{c:D->ab->Frz->Nat->Prop}{vt:List Nat}
theorem vm {kt:TypeId}:(P.underlying kt=some .string/\mkk (eqk P) P kt=.str)\/((∃a,P.underlying kt=some (.struct a))/\mkk (eqk P) P kt=eqk P kt)\/mkk (eqk P) P kt=.no:=by
 grind[mkk]
theorem TF {kt:TypeId}{a:List FK}(h:eqk P kt=.flat a):∃b,mG P kt=some b/\a=b.map (pF P):=by
 grind[eqk]
theorem K5 {kt:TypeId}(h:eqk P kt=.str):False:=by
 grind[eqk]
theorem WC {kt:TypeId}{k x:D}{b:Bool}(h:mq (mkk (eqk P) P kt) k x=some b):m5 P kt k x=some b:=by
 unfold mq at h;split at h
 grind[vm,m5,K5]
 .split at h
  .rename_i d c;rcases vm (P:=P) (kt:=kt)with⟨_,a⟩ |⟨_,a⟩ |a
   grind
   .rw[a]at c;simp only[m5];refine EH ?_;rw[c];exact h
   grind
  grind
 grind
theorem SF {kt:TypeId}{k:D}(h:AM (mkk (eqk P) P kt) k=true):fP P kt k=true:=by
 unfold AM at h;split at h
 .rcases vm (P:=P) (kt:=kt)with⟨c,_⟩ |⟨_,a⟩ |a
  simp_all[fP];grind[K5];grind
 .rename_i e l b;rcases vm (P:=P) (kt:=kt)with⟨_,a⟩ |⟨⟨f,c⟩,a⟩ |a
  grind
  .rw[a]at b;obtain⟨g,d,rfl⟩:=TF b;simp_all[fP]
  grind
 grind
theorem Kb {kt:TypeId}{k:D}:∀{a:List D} {i:Nat} {o:Option Nat},iD (mkk (eqk P) P kt) k a i=some o->findKey P kt k a i=some o
 |[],i,o,h=>h
 |x::a,i,o,h=>by
  simp only[iD]at h;simp only[findKey]
  cases c:mq (mkk (eqk P) P kt) k x with
  |none=>grind
  |some b=>
   rw[c]at h;rw[WC c]
   cases b with
   |true=>omega
   |false=>exact Kb h
theorem O6 {kt:TypeId}{k:D}{a:List D}{c:Option Nat->Prop}(h:kf (mkk (eqk P) P kt) k a c):fP P kt k=true/\∃o,findKey P kt k a 0=some o/\c o:=by
 grind[kf,SF,Kb]
theorem Vn {mt kt b:TypeId}{m k v:D}{c:ab->Prop}(d:P.underlying mt=some (.map kt b))(a:qJ (mkk (eqk P) P kt) gh gz h m k v c):∃r,mapUpdate P gh gz mt m k v=some r/\r.v=.tup []/\r.fz=[]/\c (aJ h r.hp):=by
 unfold qJ at a;split at a
 .split at a
  .rename_i i vs e f;obtain⟨h1,o,g,h3⟩:=O6 a;simp[mapUpdate,d,h1,e,f,g]
   cases o with
   |none=>exact⟨_,rfl,rfl,rfl,h3⟩
   |some j=>exact⟨_,rfl,rfl,rfl,h3⟩
  grind
 grind
theorem VT {mt kt a:TypeId}{b:D}{e:List D}{vs:List D}{k:D}{ok:Bool}{c:D->Prop}(g:P.underlying mt=some (.map kt a))(h:zeroOf P a=some b)(f:qs (mkk (eqk P) P kt) b e vs k ok c):∃d,pI P mt e vs k ok=some d/\c d:=by
 obtain⟨h1,o,i,h3⟩:=O6 f;simp[pI]
 cases o with
 |none=>
  grind
 |some j=>
  obtain⟨v,l,m⟩:=nF h3;grind
theorem sZ {o:Option D}{c:D->ab->Frz->Nat->Prop}(a:∃d,o=some d/\c d h z nx):∃r,o.map out=some r/\c r.v (aJ h r.hp) (aJ z r.fz) nx:=by
 obtain⟨d,rfl,b⟩:=a;exact⟨out d,rfl,b⟩
theorem Ri {o:Oper}{k:KOp}(q:cop P vt o.op=some k)(e9:∀cl f,o.op=.call cl->cl.callee≠ .value f)(g:kop T sh k t gh gz h z nx id c):
 ∃r,(∀V,step P V o t gh gz id=some r)/\c r.v (aJ h r.hp) (aJ z r.fz) nx:=by
 cases W:o.op<;>simp only[W,cop,np,reduceCtorEq]at q<;>simp only[step,W]
 case move x=>
  cases B:cx x with
  |none=>grind
  |some y=>simp[B]at q;subst q;exact⟨_,fun _=>rfl,by simp only[kop]at g;rw[bU B];exact g⟩
 case assign x=>
  cases B:cx x with
  |none=>grind
  |some y=>simp[B]at q;subst q;exact⟨_,fun _=>rfl,by simp only[kop]at g;rw[bU B];exact g⟩
 case pick cc a b=>
  split at q
  .rename_i c' a' b' B ha H;cases q;simp only[kop]at g;rw[bU B,bU ha,bU H];split at g
   .rename_i d K;rw[K]
    cases d with
    |true=>exact⟨_,fun _=>rfl,g⟩
    |false=>exact⟨_,fun _=>rfl,g⟩
   grind
  grind
 case alloc e=>
  split at q
  .rename_i d K;split at q
   .rename_i G;cases q;simp only[kop]at g;exact⟨newRow id [d] d.cells.length (.ptr id 0 0),fun _=>by grind,g⟩
   grind
  grind
 case box e x=>
  split at q
  .rename_i n y F B;cases q;simp only[kop,jy]at g;rw[bU B];split at g
   .rename_i H;simp only[zJ]at H;have e1:=zl H.1.1;have e2:0<n:=zk H.1.2;refine⟨newRow id [y.ev t] (y.ev t).cells.length (.ptr id 0 0),fun _=>by grind,?_⟩;rw[e1];exact g
   grind
  grind
 case build ty parts=>
  simp only[DP]at q;unfold build;split at q
  .rename_i fs zd D X;rw[D,X];split at q
   .rename_i b3 g1;split at q
    .rename_i Y
     cases I:mP (fun i=>b3[i]?) parts.toList with
     |none=>grind
     |some ps=>
      simp[I]at q;subst q;simp only[kop]at g;obtain⟨l,h1,C⟩:=J5 I g;exact⟨out (.agg l),fun _=>by grind,C⟩
    grind
   grind
  .rename_i n e zd D X;rw[D,X];split at q
   .rename_i m hm;split at q
    .rename_i Y
     cases I:mP (fun i=>some (i*m,m)) parts.toList with
     |none=>grind
     |some ps=>
      simp[I]at q;subst q;simp only[kop]at g;obtain⟨l,h1,C⟩:=J5 I g;exact⟨out (.agg l),fun _=>by grind,C⟩
    grind
   grind
  grind
 case buildSlice ty len parts=>
  split at q
  grind
  .rename_i e S;rw[S];split at q
   .rename_i n d l F K U;split at q
    .rename_i G;cases q;simp only[kop]at g;obtain⟨l',h1,C⟩:=Po U g;exact⟨newRow id l' n (.ref id 0 len),fun _=>by grind,C⟩
    grind
   grind
 case load ty a=>
  split at q
  .rename_i ag n x h1 C B;cases q;simp only[kop]at g;obtain⟨d,h3,Z⟩:=FP h1 C g;exact⟨out d,fun _=>by grind[bU],Z⟩
  grind
 case store ty a v=>
  split at q
  .rename_i n x y C B hy;cases q;simp only[kop]at g;obtain⟨r,h3,Z,h5,h6⟩:=Rt C g;refine⟨r,fun _=>by grind[bU],?_⟩;rw[Z,h5];exact h6
  grind
 case nilCheck x=>
  cases B:cx x with
  |none=>grind
  |some y=>
   simp[B]at q;subst q;simp only[kop]at g;rw[bU B];split at g
   .rename_i K;rw[K];exact⟨_,fun _=>rfl,g⟩
   .rename_i K;rw[K];exact⟨_,fun _=>rfl,g⟩
   grind
 case binOp op ty x y p=>
  split at q
  .rename_i x' y' B hy;cases q;simp only[kop]at g;rw[<-bU B,<-bU hy]at g;obtain⟨d,h1,C⟩:=Sw g;exact⟨out d,fun _=>by grind,C⟩
  grind
 case unOp op ty x=>
  cases B:cx x with
  |none=>grind
  |some y=>
   simp[B]at q;subst q;simp only[kop]at g;rw[bU B];obtain⟨d,h1,C⟩:=Qu g;exact⟨out d,fun _=>by grind,C⟩
 case convert a b x=>
  cases B:cx x with
  |none=>grind
  |some y=>
   simp[B]at q;subst q;simp only[kop]at g;rw[bU B];obtain⟨d,h1,C⟩:=TC g;exact⟨out d,fun _=>by grind,C⟩
 case makeFunc fn a e=>
  split at q
  .rename_i f a' e' h1 C;cases q;simp only[kop]at g;refine⟨out (.fn f (a.toList.map (ev t)) (e.toList.map (ev t))),fun _=>rfl,?_⟩;rw[nX h1,nX C];exact g
  grind
 case makeMap ty r=>
  split at q
  .cases q;exact⟨_,fun _=>rfl,g⟩
  grind
 case makeSlice ty l cp=>
  split at q
  grind
  .rename_i e S;rw[S];split at q
   .rename_i L x y E B hy;cases q;obtain⟨e1,e2,e3,e4,e5,e6⟩:=vY E;simp only[kop]at g;rw[bU B,bU hy];split at g
    .rename_i l' k' U g4;obtain⟨n,F,w⟩:=Gr g;obtain⟨h1,C⟩:=dM w;subst F;refine⟨newRow id (List.replicate n L.d) L.n (.ref id 0 n),fun _=>?_,C⟩;grind
    grind
   grind
 case slice ty x lo hi mx=>
  split at q
  .rename_i x' g5 g6 g7 B a1 a2 b5;rw[bU B];split at q
   .rename_i D;cases q;simp only[kop]at g;unfold I4 at g;split at g
    .rename_i s b6;obtain⟨a,ha,A⟩:=nj a1 g;obtain⟨b,H,w⟩:=nj a2 A;obtain⟨g8,a3⟩:=dM w
     have hm:dT t mx=none:=by
      cases mx with
      |none=>rfl
      |some m=>
       simp_all[cxo]
     refine⟨out (.str (s.extract a b)),fun _=>?_,a3⟩;simp_all[ll]
    grind
   .rename_i e D
    cases F:sizeOf P e with
    |none=>grind
    |some n=>
     simp[F]at q;subst q;simp only[kop]at g;obtain⟨d,h1,C⟩:=Q1 D F a1 a2 b5 g;exact⟨out d,fun _=>h1,C⟩
   .rename_i n e D;split at q
    .rename_i ag k a4 g9;cases q
     have a5:lo=none:=by
      cases lo with
      |none=>rfl
      |some m=>simp_all[cxo]
     have a6:hi=none:=by
      cases hi with
      |none=>rfl
      |some m=>simp_all[cxo]
     have a7:mx=none:=by
      cases mx with
      |none=>rfl
      |some m=>simp_all[cxo]
     subst a5 a6 a7;simp only[kop]at g;unfold Ld at g;split at g
     .rename_i i j o h7;split at g
      .rename_i es esz a8;obtain⟨L,E,A⟩:=nF g;rw[jy]at A;split at A
       simp_all[il,jt,aV,ll,dT,aJ];grind
      grind
     grind
    grind
   grind
  grind
 case fieldAddr ty x f=>
  split at q
  .rename_i n x' F B;cases q;simp only[kop]at g;rw[bU B];obtain⟨d,h1,C⟩:=l8 g;exact⟨out d,fun _=>by grind,C⟩
  grind
 case indexAddr ty x ix=>
  split at q
  .rename_i x' b7 B M;rw[bU B,bU M];split at q
   .rename_i e D
    cases F:sizeOf P e with
    |none=>grind
    |some n=>
     simp[F]at q;subst q;simp only[kop]at g;unfold kixs at g;refine Exists.imp (fun r h=>⟨fun _=>h.1,h.2⟩) (sZ ?_);split at g
     .rename_i l h8;obtain⟨i,hi,A⟩:=lV g;obtain⟨d,K,w⟩:=nF A;rw[jy]at w;split at w
      simp_all[indexAddr];grind
     .rename_i id0 off len h9;split at g
      .rename_i es esz a8;split at g
       .rename_i H;obtain⟨i,hi,A⟩:=lV g;obtain⟨N,w⟩:=dM A;simp_all[indexAddr]
       grind
      grind
     grind
   .rename_i len e D
    cases F:sizeOf P e with
    |none=>grind
    |some n=>
     simp[F]at q;subst q;simp only[kop]at g;unfold kixa at g;refine Exists.imp (fun r h=>⟨fun _=>h.1,h.2⟩) (sZ ?_);obtain⟨i,hi,A⟩:=lV g;obtain⟨N,w⟩:=dM A;simp_all[l8,indexAddr]
   grind
  grind
 case index ty x ix=>
  split at q
  .rename_i x' b7 B M;rw[bU B,bU M];refine Exists.imp (fun r h=>⟨fun _=>h.1,h.2⟩) (sZ ?_);split at q
   .rename_i len e D;split at q
    .rename_i ag n a4 F;cases q;simp only[kop]at g;unfold kia at g;split at g
     .rename_i cs b8;obtain⟨i,hi,A⟩:=lV g;obtain⟨N,w⟩:=dM A;unfold index;rw[b8,hi,D];simp only;rw[if_pos N,a4,F]
      cases ag with
      |true=>
       obtain⟨H,a3⟩:=dM w;grind
      |false=>
       simp_all[nF]
     grind
    grind
   .rename_i D;cases q;simp only[kop]at g;unfold Nf at g;split at g
    .rename_i s b6;obtain⟨i,hi,A⟩:=lV g;obtain⟨b,H,w⟩:=nF A;simp_all[index]
    grind
   grind
  grind
 case lookup mt x kk ok=>
  split at q
  .rename_i kt et x' k' D B O
   cases X:zeroOf P et with
   |none=>grind
   |some zd=>
    simp[X]at q;subst q;simp only[kop]at g;rw[bU B,bU O];refine Exists.imp (fun r h=>⟨fun _=>h.1,h.2⟩) (sZ ?_);unfold r7 at g;grind[lookup,VT]
  grind
 case mapUpdate mt m kk v=>
  split at q
  .rename_i kt et m' k' v' D hm O hv;cases q;simp only[kop]at g;rw[bU hm,bU O,bU hv];obtain⟨r,h1,C,h3,Z⟩:=Vn D g;refine⟨r,fun _=>h1,?_⟩;rw[C,h3];exact Z
  grind
 case extract x i=>
  cases B:cx x with
  |none=>grind
  |some y=>
   simp[B]at q;subst q;simp only[kop]at g;rw[bU B];unfold DS at g;split at g
   .rename_i l U;rw[U];obtain⟨d,h1,C⟩:=nF g;exact⟨out d,fun _=>by grind,C⟩
   grind
 case call cl=>
  cases a9:cl.callee with
  |value f=>grind
  |invoke r m=>grind[lO]
  |builtin b=>
   simp only[lO,a9]at q;split at q
   grind
   .rename_i l U;have Q:=nX (t:=t) U;simp only[Q];split at q
    .
     split at q
     .rename_i ty u sx x J;split at q
      grind
      .rename_i e S;split at q
       .rename_i L k E D;cases q;simp only[kop,rZ]at g;obtain⟨n,F,A⟩:=lV g;obtain⟨e8,w⟩:=dM A;obtain⟨e1,e2,e3,e4,e5,e6⟩:=vY E;obtain⟨r,h1,C⟩:=Eg (c:=fun d h z=>c d h z nx) E (by grind) w;simp_all[append]
       .rename_i L E D;cases q;simp only[kop,rZ]at g;split at g
        .rename_i bs i1;obtain⟨h0,A⟩:=AU g;grind[Eg,append]
        grind
       .rename_i L u' E D;cases q;simp only[kop,rZ]at g;grind[CX,Eg,append]
       grind
     grind
    .
     split at q
     .rename_i ty rest sx x J;split at q
      grind
      .rename_i e S
       cases F:sizeOf P e with
       |none=>grind
       |some n=>
        simp[F]at q;subst q;simp only[kop]at g;unfold Bg at g;split at g
        .rename_i i off len hs;split at g
         .rename_i es esz H;split at g
          .rename_i R;have hq:=zl R;subst hq;obtain⟨l,hw,h0,A⟩:=CX g;obtain⟨G,w⟩:=dM A;refine⟨⟨.int .i64 (min l.length len:Nat),[(i,some (.row (es.take off++l.take (min l.length len)++es.drop (off+min l.length len)) n))],[]⟩,fun _=>?_,w⟩;simp_all[copy]
          grind
         grind
        grind
     grind
    .
     split at q
     .rename_i ty sx J;split at q
      grind
      .rename_i e S
       cases E:elk P e with
       |none=>grind
       |some L=>
        simp[E]at q;subst q;obtain⟨e1,e2,e3,e4,e5,e6⟩:=vY E;simp only[kop]at g;unfold D5 at g;split at g
        .rename_i i off len hs;split at g
         .rename_i es esz H;split at g
          .rename_i R;simp only[zJ]at R;obtain⟨G,w⟩:=dM g;refine⟨⟨.tup [],[(i,some (.row (es.take off++List.replicate len L.d++es.drop (off+len)) esz))],[]⟩,fun _=>?_,w⟩;simp_all[clear]
          grind
         grind
        .rename_i hs;exact⟨out (.tup []),fun _=>by grind[clear],g⟩
        .rename_i l hs;obtain⟨rfl,w⟩:=dM g;exact⟨out (.tup []),fun _=>by grind[clear],w⟩
        grind
     grind
    .
     refine Exists.imp (fun r h=>⟨fun _=>h.1,h.2⟩) (sZ ?_);split at q
     .rename_i ty x J;simp only[sD,J,zg,List.map_nil];split at q
      .rename_i D;cases q;simp only[kop,pz]at g;grind
      grind[kop,pz]
      .rename_i e D;cases q;simp only[kop,pz]at g;grind
      .rename_i a b D;cases q;simp only[kop,pz]at g;grind
      grind
     grind
    .
     split at q
     .rename_i ty x J;split at q
      .rename_i e D;cases q;simp only[kop]at g;split at g
       .rename_i B;exact⟨out (.int .i64 0),fun _=>by grind[uA],g⟩
       grind
      grind
     grind
    .
     cases q;simp only[kop]at g;split at g
     grind
     .obtain⟨d,h1,C⟩:=Lj g;exact⟨out d,fun _=>by grind[mI],C⟩
    .cases q;simp only[kop]at g;split at g
     grind
     .obtain⟨d,h1,C⟩:=Lj g;exact⟨out d,fun _=>by grind[mI],C⟩
    grind
end
end Go.F
