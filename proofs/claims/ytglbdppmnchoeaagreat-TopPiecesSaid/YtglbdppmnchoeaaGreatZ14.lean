/- Part 14. -/
import Derived.Test.YtglbdppmnchoeaaGreatZ13
set_option linter.all false
namespace Go.F
variable {P:Program}{c:Ctx}{m:Map}{pr:aM}{h hr:ab}{z z':Frz}{w:World}
theorem qh {α β:Type}{f:α->Option β}:∀{l:List α} {a:List β},l.mapM f=some a->a.length=l.length/\∀i (h1:i<l.length) (b:i<a.length),f l[i]=some a[i]:=by
 intro l
 induction l with
 |nil=>simp
 |cons x l c=>
  cases d:f x with
  |none=>grind
  |some y=>
   cases e:l.mapM f with
   |none=>grind
   |some ys=>
    grind
def iw (e:D)(a:List Value):Value:=
 match e with
 |.agg _=> .agg a.toArray
 |_=>a.headD undef
theorem Pa {e:D}{a:List Value}(b:Cells m pr w e.cells a):VR m pr w e (iw e a)/\(iw e a).cells.toList=a:=by
 cases e with
 |agg l=>exact⟨b.agg,by rfl⟩
 |_=>
  have f:=b.len;simp only[D.cells,yL]at f
  match a,f with
  |[v],_=>
   have c:=b.vr 0 (by simp[D.cells]) (by simp);have g:=b.one _ (z8.2 rfl);simp only[D.cells,List.getElem_cons_zero]at c;refine⟨by simpa[iw]using c,?_⟩;have d:=c.oneCell g;simp only[iw,List.headD_cons];cases v<;>first|rfl|(simp[oneV]at d)
def tO (c:Ctx)(m:Map)(h:ab)(z':Frz)(w:World)(d a:D)(v:Value):Prop:=
 VR aS (Pr c m h z') w a v/\(d.one=true->a.one=true)/\(d.sto=true->a.sto=true)/\a.cells.length=d.cells.length
theorem MU (H:HR c m h z w){id b esz:Nat}{es:List D}(d:m id=some (b,esz))(k:h id=some (.row es esz))(g:c.B<=b)(l:z' id=aV h id){o:Nat}(n:o<es.length*esz):Pr c m h z' b o:=by
 refine .inr ⟨g,fun⟨a,e,i,j,p⟩=>?_⟩;have f:a=id:=H.inj a id _ _ j (by grind) i d rfl;grind[aV]
theorem sP (H:HR c m h z w)(W:Sub hr h)(ev:Ev m (Pr c m h z) w m (Pr c m h z') w):∀(n:Nat) (d d':D) (v:Value),VR m (Pr c m h z) w d v->aG hr n d=some d'->(∀id∈aN hr n d,z' id=aV h id)->
 tO c m h z' w d d' v:=by
 intro n
 induction n with
 |zero=>intro d d' v _ g;trivial
 |succ n ih=>
  intro d d' v A g B
  have J:∀(l y:List D) (vs:Array Value),l.mapM (aG hr n)=some y->l.length=vs.size->(∀k (_:k<l.length) (_:k<vs.size),VR m (Pr c m h z) w l[k] vs[k])->(∀x∈l,∀id∈aN hr n x,z' id=aV h id)->
   y.length=vs.size/\(∀k (_:k<y.length) (_:k<vs.size),VR aS (Pr c m h z') w y[k] vs[k])/\((∀x∈l,x.one=true)->∀x∈y,x.one=true):=by
   intro l y vs G hl N a4;obtain⟨h1,I⟩:=qh G;refine⟨by omega,fun k u e8=>?_,fun s x K=>?_⟩
   .exact(ih _ _ _ (N k (by omega) e8) (I k (by omega) u) (a4 _ (zE _))).1
   obtain⟨k,u,rfl⟩:=ze.1 K;exact(ih _ _ _ (N k (by omega) (by omega)) (I k (by omega) u) (a4 _ (zE _))).2.1 (s _ (zE _))
  cases d with
  |bool b=>simp[aG]at g;subst g;exact⟨A.scalar rfl,fun _=>rfl,fun _=>rfl,rfl⟩
  |int k b=>simp[aG]at g;subst g;exact⟨A.scalar rfl,fun _=>rfl,fun _=>rfl,rfl⟩
  |float k b=>simp[aG]at g;subst g;exact⟨A.scalar rfl,fun _=>rfl,fun _=>rfl,rfl⟩
  |str b=>simp[aG]at g;subst g;exact⟨A.scalar rfl,fun _=>rfl,fun _=>rfl,rfl⟩
  |nilsl=>
   simp[aG]at g;subst g;cases A;exact⟨.lst0 _ _,fun _=>rfl,fun _=>rfl,rfl⟩
  |lst l=>
   simp[aG]at g;subst g;refine⟨?_,fun _=>rfl,fun _=>rfl,rfl⟩
   cases A with
   |lst0 a cap=>exact .lst0 a cap
   |lst _ b o cap esz cv e9 g0 a5 R hc A s=>
    exact .lst l b o cap esz cv e9 g0 a5 R (fun k u=>let ⟨p,q⟩:=ev.cell b (o+k) (cv k) (hc k u).2 (hc k u).1;⟨q,p⟩) (fun k u=>(A k u).mono ev.bare) s
  |opq x=>simp[aG]at g;subst g;cases A with|opq _ ho O=>exact⟨.opq _ ho O,fun _=>rfl,fun _=>rfl,rfl⟩
  |pl e o=>
   simp[aG]at g;subst g;refine⟨?_,fun _=>rfl,fun _=>rfl,rfl⟩
   cases A with
   |pl _ _ b o' cv hc A s=>
    exact .pl e o b o' cv (fun k u=>let ⟨p,q⟩:=ev.cell b (o'+k) (cv k) (hc k u).2 (hc k u).1;⟨q,p⟩) (fun k u=>(A k u).mono ev.bare) s
  |mlst ks vs=>
   simp[aG]at g;subst g;refine⟨?_,fun _=>rfl,fun _=>rfl,rfl⟩
   cases A with
   |mlst _ _ r F es hw hp h1 I u A=>
    obtain⟨p,q⟩:=ev.obj r es F hp hw;exact .mlst ks vs r F es q p h1 I u (fun i h3 X=>(A i h3 X).mono ev.bare)
  |ptr id i o=>
   cases o with
   |succ o=>trivial
   |zero=>
   simp only[aG]at g;split at g
   .rename_i es O;split at g
    .rename_i e he;split at g
     .rename_i ho
      cases G:aG hr n e with
      |none=>grind
      |some e'=>
       simp[G]at g;subst g;have hz:z' id=aV h id:=B id (by grind[aN]);refine⟨?_,fun _=>rfl,fun _=>rfl,rfl⟩
       cases A with
       |ptr _ _ _ b S E=>
        obtain⟨b',C',t',P,g2,g3,g4⟩:=H.rowR (W _ _ O) E;obtain⟨r1,T,r3,r4,r5⟩:=g4;rw[P]at E;cases E;obtain⟨hi,L⟩:=yB.1 he;have k3:e.cells=[e]:=by cases e<;>first|rfl|trivial
        have b4:=cY T;have g6:i<(fl es).length:=by omega
        have hg:(fl es)[i]=e:=by
         have:=fO T he (j:=0) (by omega);grind
        have g8:i<C'.size:=by omega
        have b5:=r4 i g6 g8;rw[hg]at b5;have hS:=ih e e' _ b5 G (fun x K=>B x (by simp[aN];grind));obtain⟨s1,s2,s3,s4⟩:=hS;have k6:=s2 ho;have i9:e'.cells=[e']:=by cases e'<;>first|rfl|trivial
        have k7:=MU H P (W _ _ O) g2 hz (o:=i) (by omega)
        have g9:w.cell? ⟨b,i,none⟩=some C'[i]:=by
         grind[World.cell?]
        have:=VR.pl (m:=aS) (pr:=Pr c m h z') (w:=w) e' 0 b i (fun _=>C'[i]) (fun k u=>by
         simp_all) (fun k u=>by
         grind) (fun x K=>by grind)
        grind
     grind
    grind
   grind
  |bad=>trivial
  |agg l=>
   simp only[aG]at g
   cases G:l.mapM (aG hr n)with
   |none=>grind
   |some y=>
    simp[G]at g;subst g;obtain⟨vs,rfl,hl,N,s⟩:=A.aggs;obtain⟨h1,I,h3⟩:=J l y vs G hl N (fun x K id hi=>B id (by grind[aN]));exact⟨.agg y vs h1 I (h3 s),fun ho=>by trivial,fun _=>rfl,by grind[D.cells]⟩
  |tup l=>
   simp only[aG]at g
   cases G:l.mapM (aG hr n)with
   |none=>grind
   |some y=>
    simp[G]at g;subst g;obtain⟨vs,rfl,hl,N⟩:=A.tups;obtain⟨h1,I,_⟩:=J l y vs G hl N (fun x K id hi=>B id (by grind[aN]));exact⟨.tup y vs h1 I,fun ho=>by trivial,fun ho=>by trivial,rfl⟩
  |fn f la lc=>
   simp only[aG]at g;split at g
   .rename_i b6 b7 ha h0;simp at g;subst g
    cases A with
    |fn _ _ _ va vc h1 I h3 X=>
     obtain⟨a1,a2,_⟩:=J la b6 va ha h1 h3 (fun x K id hi=>B id (by simp only[aN];grind));obtain⟨b1,b2,_⟩:=J lc b7 vc h0 I X (fun x K id hi=>B id (by simp only[aN];grind));exact⟨.fn f b6 b7 va vc a1 b1 a2 b2,fun _=>rfl,fun _=>rfl,rfl⟩
   grind
  |mref id=>
   simp only[aG]at g;split at g
   .rename_i ks vs O
    cases G:vs.mapM (aG hr n)with
    |none=>grind
    |some vs'=>
     simp[G]at g;subst g;obtain⟨r,es,F,P,g2,g3,g4⟩:=H.mp id ks vs (W _ _ O);obtain⟨m1,m2,m3,m4⟩:=g4;have hz:z' id=aV h id:=B id (by grind[aN])
     cases A with
     |mref _ r' E=>
      rw[P]at E;cases E
      obtain⟨a1,a2,_⟩:=J vs vs' (es.map (·.val)) G (by grind) (fun k h1 I=>by grind)
       (fun x K i hi=>B i (by simp[aN];grind))
      refine⟨.mlst ks vs' r F es g3 ?_ m1 (by grind) m3 (fun i h1 I=>by grind),fun _=>rfl,fun _=>rfl,rfl⟩;refine .inr ⟨g2,fun⟨b8,S,w1,w2,w3⟩=>?_⟩;have b9:b8=id:=H.inj b8 id _ _ w2 (by rw[W _ _ O];simp) w1 P rfl;subst b9;rw[P]at w1;cases w1;rw[hz]at w3;simp[aV,W _ _ O]at w3
   grind
  |ref id off len=>
   simp only[aG]at g;split at g
   .rename_i es esz O;split at g
    .rename_i h8
     cases G:((es.drop off).take len).mapM (aG hr n)with
     |none=>grind
     |some y=>
      simp[G]at g;subst g;have hz:z' id=aV h id:=B id (by grind[aN]);refine⟨?_,fun _=>rfl,fun _=>rfl,rfl⟩
      cases A with
      |vnil _ a=>simp at G;subst G;exact .lst0 _ _
      |ref _ _ _ b S cap C t f E c0 R j4=>
       obtain⟨b',C',t',P,g2,g3,g4⟩:=H.rowR (W _ _ O) E;obtain⟨r1,T,r3,r4,r5⟩:=g4;rw[P]at E;cases E;rw[g3]at c0;cases c0;obtain⟨q1,q2⟩:=qh G;have h9:((es.drop off).take len).length=len:=by grind
       rw[h9]at q1;by_cases i0:len=0
       .subst i0;have:y=[]:=by grind
        subst this;exact .lst0 _ _
       have c3:∀i (hi:i<((es.drop off).take len).length),((es.drop off).take len)[i]=es[off+i]'(by omega):=fun i hi=>by simp
       have U:∀i (hi:i<len),∃e e':D,es[off+i]?=some e/\y[i]?=some e'/\e.cells.length=esz/\tO c m h z' w e e' (iw e ((C.toList.drop ((off+i) *esz)).take esz))/\(iw e ((C.toList.drop ((off+i) *esz)).take esz)).cells.toList=(C.toList.drop ((off+i) *esz)).take esz/\e.sto=true:=by
        intro i hi;have c4:off+i<es.length:=by omega
        have L:es[off+i]?=some es[off+i]:=zK c4;have Y:es[off+i].cells.length=esz:=T _ (zE _);have i1:(off+i+1) *esz<=es.length*esz:=zF _ c4;rw[y3]at i1;have b4:=cY T
        have M:Cells m (Pr c m h z) w es[off+i].cells ((C.toList.drop ((off+i) *esz)).take esz):=by
         refine⟨by grind,fun k h1 I=>?_,fun x K=>?_⟩
         .have hg:(fl es)[(off+i) *esz+k]=es[off+i].cells[k]:=by
           have:=fO T L (j:=k) (by omega);grind
          grind
         obtain⟨j,hj,rfl⟩:=ze.1 K;have:=fO T L (j:=j) (by omega);grind
        obtain⟨Z,e2⟩:=Pa M
        have c5:es[off+i].sto=true:=by
         have s:=M.one
         cases he:es[off+i]with
         |tup x=>rw[he]at s;have:=s (.tup x) (by simp[D.cells]);trivial
         |bad=>rw[he]at s;trivial
         |_=>rfl
        have hq:=q2 i (by omega) (by omega);rw[c3 i (by omega)]at hq;refine⟨es[off+i],y[i]'(by omega),L,zK (by omega),Y,ih _ _ _ Z hq (fun x K=>B x ?_),e2,c5⟩;simp[aN];grind
       have a0:∀x∈y,x.cells.length=esz:=by
        intro x K;obtain⟨i,hi,rfl⟩:=ze.1 K;obtain⟨e,e',h1,I,h3,X,_,_⟩:=U i (by omega);rw[zK hi]at I;cases I;rw[X.2.2.2];omega
       have c6:=cY a0
       have c7:∀k (u:k<(fl y).length),VR aS (Pr c m h z') w (fl y)[k] (C.getD (off*esz+k) undef)/\(fl y)[k].one=true:=by
        intro k u;have c8:k/esz<len:=ym (by grind);have V:k%esz<esz:=zI _ r1;have l7:k/esz*esz+k%esz=k:=by simp[zx,yH]
        obtain⟨e,e',h1,I,h3,X,h5,h6⟩:=U (k/esz) c8;obtain⟨s1,s2,s3,s4⟩:=X;obtain⟨t1,t2,t3⟩:=s1.cells (s3 h6);have hg:=fO a0 I (j:=k%esz) V;have c9:k%esz<(iw e ((C.toList.drop ((off+k/esz) *esz)).take esz)).cells.size:=by omega
        have j7:(iw e ((C.toList.drop ((off+k/esz) *esz)).take esz)).cells[k%esz]=C.getD (off*esz+k) undef:=by
         have Z:(iw e ((C.toList.drop ((off+k/esz) *esz)).take esz)).cells.toList[k%esz]?=((C.toList.drop ((off+k/esz) *esz)).take esz)[k%esz]?:=by rw[h5]
         rw[xj V,List.getElem?_drop]at Z;rw[show(off+k/esz) *esz+k%esz=off*esz+k by grind]at Z;simp at Z;rw[yC c9]at Z;simp[wV,<-Z]
        grind
       have i2:VR aS (Pr c m h z') w (.lst y) (.slice (some ⟨b,off*esz,none⟩) y.length cap):=by
        refine .lst y b (off*esz) cap esz (fun k=>C.getD (off*esz+k) undef) (fun e0=>by grind) a0 r1 (by omega) (fun k u=>?_) (fun k u=>(c7 k u).1) (fun x K=>?_)
        .have i3:=u;rw[c6,q1]at i3;have Q:(off+len) *esz<=es.length*esz:=zF _ h8;rw[yX]at Q;have b4:=cY T;have m0:off*esz+k<C.size:=by omega
         refine⟨?_,MU H P (W _ _ O) g2 hz (by omega)⟩;rw[cell?_row g3];simp_all
        obtain⟨k,u,rfl⟩:=ze.1 K;grind
       grind
    grind
   grind
end Go.F
