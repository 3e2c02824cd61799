/- Part 27. -/
import Derived.Test.YtglbdppmnchoeaaGreatZ26
set_option linter.all false
set_option maxHeartbeats 8000000
namespace Go.F
theorem Kg {sh:Sh}{α:Type}{enc:α->D}(h:∀x,HasC sh x->∃a,mkD sh x=enc a){c:Hm}(d:HasC (.sl sh) c):∃l:List α,mkD (.sl sh) c=.lst (l.map enc)/\l.length<=maxLen:=by
 cases d with
 |sl _ es j e=>
  have key:∀es:List Hm,(∀x∈es,HasC sh x)->∃l:List α,es.map (mkD sh)=l.map enc/\l.length=es.length:=by
   intro es
   induction es with
   |nil=>simp
   |cons x es f=>
    intro b;obtain⟨l,h1,g⟩:=f fun y i=>b y (zG _ i);obtain⟨a,k⟩:=h x (b x (zO ..));exact⟨a::l,by grind,by grind⟩
  obtain⟨l,h1,g⟩:=key es e;exact⟨l,by simp_all[mkD],by omega⟩
theorem dp {k:IntKind}{x:Hm}(h:HasC (.int k) x):∃n:Int,x=[.int k n]/\k.min<=n/\n<=k.max:=by
 cases h with
 |int _ n a=>grind
theorem B2 {x:Hm}(h:HasC .bool x):∃b:Bool,x=[.bool b]:=by
 cases h with
 |bool b=>simp
theorem tI {x:Hm}(h:HasC .str x):∃s:ByteArray,x=[.str s]/\s.size<=maxLen:=by
 cases h with
 |str s a=>grind
theorem gY {x:Hm}(h:HasC (.st []) x):x=[]:=by
 cases h;rfl
theorem bp {s:Sh}{c:List Sh}{x:Hm}(h:HasC (.st (s::c)) x):∃a b,x=a++b/\HasC s a/\HasC (.st c) b:=by
 cases h with
 |stc _ _ a b d e=>grind
def AA:Sh:=.st [.int .i64,.int .i64]
def Fe:Sh:=.st [.str,.sl AA]
def WD:Sh:=.sl Fe
def mW:Sh:=.sl (.int .i64)
theorem DG {x:Hm}(h:HasC AA x):∃s:Spot,mkD AA x=s.enc/\x=[.int .i64 s.x,.int .i64 s.y]/\(IntKind.i64.min<=s.x/\s.x<=IntKind.i64.max)/\(IntKind.i64.min<=s.y/\s.y<=IntKind.i64.max):=by
 obtain⟨a,b,rfl,e,f⟩:=bp h;obtain⟨c,d,rfl,g,i⟩:=bp f;obtain⟨n,rfl,j⟩:=dp e;obtain⟨m,rfl,k⟩:=dp g;obtain rfl:=gY i;exact⟨⟨n,m⟩,rfl,rfl,j,k⟩
theorem QR {x:Hm}(h:HasC Fe x):∃e:Edge,mkD Fe x=e.enc:=by
 obtain⟨a,b,rfl,g,i⟩:=bp h;obtain⟨c,d,rfl,f,j⟩:=bp i;obtain⟨s,rfl,_⟩:=tI g;obtain rfl:=gY j;obtain⟨l,k,_⟩:=Kg (enc:=Spot.enc) (fun x m=>by grind[DG]) f;refine⟨⟨s,l⟩,?_⟩;show D.agg ([.str s]++(c++[]))=.agg [.str s,ac l]
 have:c=[ac l]:=by
  cases f with
  |sl _ es _ _=>simp_all[mkD,ac]
 grind
def CY:Sh:=.st [.int .i64,.int .i64,.int .i64,.int .i64]
attribute [local irreducible] IntKind.wrap wpM
def ay (a b c:Spot):Int:=(b.x-a.x) *(c.y-a.y)-(b.y-a.y) *(c.x-a.x)
theorem Ab (a b c:Spot) [OkS a] [OkS b] [OkS c]:PU 165 [a.enc,b.enc,c.enc]=some (.int .i64 (ay a b c)):=by
 refine PS rfl ?_
 repeat' (first
  |refine jP rfl ?_
  |refine fI rfl ?_)
 simp[cH,ay]
def onS (a b p:Spot):Bool:=decide (ay a b p=0)&&(decide (min a.x b.x<=p.x)&&(decide (p.x<=max a.x b.x)&&(decide (min a.y b.y<=p.y)&&decide (p.y<=max a.y b.y))))
theorem on_PU (a b p:Spot) [OkS a] [OkS b] [OkS p]:PU 166 [a.enc,b.enc,p.enc]=some (.bool (onS a b p)):=by
 refine PS rfl ?_
 repeat' (first
  |refine jP rfl ?_
  |refine au rfl ?_ ?_<;>intro _
  |refine fI rfl ?_
  |refine aB rfl rfl (Ab _ _ _) ?_)
 all_goals ((try simp only[cw,ca,cC,eJ,zT,zQ,zj,zi,yO,yZ]at*);first|(simp_all[onS];done) |(simp_all[onS];omega) |(rw[D.bool.injEq,zN];simp[onS];omega) |(rw[D.bool.injEq,zN];simp_all[onS];omega) |(simp[onS];split<;>(try split)<;>omega))
def sgn (n:Int):Int:=if n<0 then-1 else if 0<n then 1 else 0
theorem C2 (n:Int):Bd (sgn n) 1:=⟨by grind[sgn]⟩
instance (n:Int):Bd (sgn n) 1:=C2 n
theorem Y0 (n:Int):PU 110 [.int .i64 n]=some (.bool false):=by
 refine PS rfl ?_
 repeat' (first
  |refine jP rfl ?_
  |refine fI rfl ?_)
 simp[nqb]
def br (a b:Int):Int:=if a<b then-1 else if b<a then 1 else 0
theorem cmp0 (a:Int):br a 0=sgn a:=rfl
theorem js (a b:Int):PU 72 [.int .i64 a,.int .i64 b]=some (.int .i64 (br a b)):=by
 refine PS rfl ?_
 repeat' (first
  |refine jP rfl ?_
  |refine an rfl ?_ ?_<;>intro _
  |refine fI rfl ?_
  |refine aB rfl rfl (Y0 _) ?_)
 all_goals ((try simp only[cw,ca,cC,eJ,zT,zQ,zj,zi,yO,yZ]at*);first|(simp_all[br];done) |grind[br] |(rw[D.bool.injEq,zN];simp[br];omega) |(rw[D.bool.injEq,zN];simp_all[br];omega) |(simp[br];split<;>(try split)<;>omega))
def oi (a b c d:Spot):Bool:=decide (sgn (ay a b c) *sgn (ay a b d)<0)
theorem UQ (a b c d:Spot) [OkS a] [OkS b] [OkS c] [OkS d]:PU 167 [a.enc,b.enc,c.enc,d.enc]=some (.bool (oi a b c d)):=by
 refine PS rfl ?_
 repeat' (first
  |refine jP rfl ?_
  |refine fI rfl ?_
  |refine aB rfl rfl (Ab _ _ _) ?_
  |refine aB rfl rfl (js _ _) ?_)
 simp[cmp0,cH,cw,oi]
def ld (a b c d:Spot):Bool:=onS a b c||(onS a b d||(onS c d a||(onS c d b||(oi a b c d&&oi c d a b))))
theorem Uz (a b c d:Spot) [OkS a] [OkS b] [OkS c] [OkS d]:PU 122 [a.enc,b.enc,c.enc,d.enc]=some (.bool (ld a b c d)):=by
 refine PS rfl ?_
 repeat' (first
  |refine jP rfl ?_
  |refine au rfl ?_ ?_<;>intro _
  |refine fI rfl ?_
  |refine aB rfl rfl (on_PU _ _ _) ?_
  |refine aB rfl rfl (UQ _ _ _ _) ?_)
 all_goals simp_all[ld]
def gN (a b c:Spot):Bool:=decide (ay a b c=0)&&decide (0<(a.x-b.x) *(c.x-b.x)+(a.y-b.y) *(c.y-b.y))
theorem R1 (a b c:Spot) [OkS a] [OkS b] [OkS c]:PU 121 [a.enc,b.enc,c.enc]=some (.bool (gN a b c)):=by
 refine PS rfl ?_
 repeat' (first
  |refine jP rfl ?_
  |refine au rfl ?_ ?_<;>intro _
  |refine fI rfl ?_
  |refine aB rfl rfl (Ab _ _ _) ?_)
 all_goals ((try simp only[cw,ca,cC,eJ,zT,zQ,zj,zi,yO,yZ]at*);first|(simp_all[gN,cH];done) |(simp_all[gN,cH];omega) |(rw[D.bool.injEq,zN];simp[gN,cH];omega) |(rw[D.bool.injEq,zN];simp_all[gN,cH];omega) |(simp[gN,cH];split<;>(try split)<;>omega))
def aD (s:Spot)(m:Int):Bool:=decide (-m<=s.x)&&(decide (s.x<=m)&&(decide (-m<=s.y)&&decide (s.y<=m)))
theorem TB (s:Spot):PU 78 [s.enc]=some (.bool (!aD s 1048576)):=by
 refine PS rfl ?_
 repeat' (first
  |refine jP rfl ?_
  |refine au rfl ?_ ?_<;>intro _
  |refine fI rfl ?_)
 all_goals ((try simp only[cw,ca,cC,eJ,zT,zQ,zj,zi,yO,yZ]at*);first|(simp_all[aD];done) |grind[aD] |(rw[D.bool.injEq,zN];grind[aD]) |(rw[D.bool.injEq,zN];simp_all[aD];omega) |(simp[aD];split<;>(try split)<;>omega))
theorem P2 (s:Spot):PU 124 [s.enc]=some (.bool (!aD s 1048576)):=by
 refine PS rfl ?_
 repeat' (first
  |refine jP rfl ?_
  |refine au rfl ?_ ?_<;>intro _
  |refine fI rfl ?_)
 all_goals ((try simp only[cw,ca,cC,eJ,zT,zQ,zj,zi,yO,yZ]at*);first|(simp_all[aD];done) |grind[aD] |(rw[D.bool.injEq,zN];grind[aD]) |(rw[D.bool.injEq,zN];simp_all[aD];omega) |(simp[aD];split<;>(try split)<;>omega))
def kN {α:Type}(g:α->Bool)(p:List α):Int:=match p.findIdx? g with|some i=>i|none=> -1
theorem C5 {α:Type}{g:α->Bool}{p:List α}{k:Nat}(b:k<p.length)(a:∀j (c:j<p.length),j<k->g p[j]=false)(d:g p[k]=true):kN g p=k:=by
 grind[List.findIdx?_eq_some_iff_getElem,kN]
theorem CS {α:Type}{g:α->Bool}{p:List α}(a:∀j (b:j<p.length),g p[j]=false):kN g p= -1:=by
 grind[List.mem_iff_getElem,kN]
theorem B7 {α:Type}{g:α->Bool}{p:List α}:decide (0<=kN g p)=p.any g:=by
 grind[kN]
theorem YO (a:FuncId)(g:Spot->Bool)(b:kK a=false)(e:∀s,PU a [s.enc]=some (.bool (g s)))(p:Rp)(o:p.length<4611686018427387904):
 PU 119 [ac p,.fn a [] []]=some (.int .i64 (kN g p)):=by
 refine PS rfl (gg rfl (aw (S:=fun k:Nat=>([ac p,.fn a [] [],aa p.length,aa k],none::nn3,zz4)) (C:=fun k=>k<=p.length/\∀j (d:j<p.length),j<k->g p[j]=false) (m:=fun k=>p.length-k) 0 ⟨by omega,fun j d h=>by omega⟩ (by omega) ?_ ?_))
 .exact ah rfl tr (by simp[ac,aa])
 intro k ⟨q,f⟩ N i;refine jC rfl (fun h1=>?_) (fun h1=>?_)
 .rw[ad]at h1;have c:k<p.length:=by omega
  refine jX k rfl rfl (eP c) rfl (gg rfl ?_)
  first|refine Zu rfl b ?_|refine ES rfl b ?_
  refine aB b rfl (e p[k]) (jC rfl (fun l=>?_) (fun l=>?_))
  .refine gE rfl (jF rfl ?_);grind[C5]
  refine gE rfl (i (k+1) ⟨by omega,fun j d n=>?_⟩ (by omega) ?_);grind
  .exact ah rfl tr (by grind[ac,aa,wrap64])
 rw[af]at h1;refine gE rfl (jF rfl ?_);grind[CS]
theorem Ac (a:FuncId)(g:Spot->Bool)(b:kK a=false)(c:∀s,PU a [s.enc]=some (.bool (g s)))(p:Rp)(d:p.length<4611686018427387904):
 PU 77 [ac p,.fn a [] []]=some (.bool (p.any g)):=by
 refine PS rfl ?_
 repeat' (first
  |refine jP rfl ?_
  |refine fI rfl ?_
  |refine aB rfl rfl (YO a g b c p d) ?_)
 rw[ca,B7]
theorem hJ (a b:Spot):(eqb a.x b.x&&(eqb a.y b.y&&true))=decide (a=b):=by
 cases a;cases b;simp[eqb,Bool.beq_eq_decide_eq]
theorem Ua (p:Rp)(v:Spot)(g:p.length<4611686018427387904):PU 164 [ac p,v.enc]=some (.int .i64 (kN (fun s=>decide (v=s)) p)):=by
 refine PS rfl (gg rfl (aw (S:=fun k:Nat=>([ac p,.ptr 1 0 0,aa p.length,aa k],none::some (.row [v.enc] 2)::nn2,zz4)) (C:=fun k=>k<=p.length/\∀j (c:j<p.length),j<k->decide (v=p[j])=false) (m:=fun k=>p.length-k) 0 ⟨by omega,fun j c h=>by omega⟩ (by omega) ?_ ?_))
 .exact ah rfl ⟨rfl,tr⟩ (by simp[ac,aa,Spot.enc])
 intro k ⟨i,d⟩ N e;refine jC rfl (fun h1=>?_) (fun h1=>?_)
 .rw[ad]at h1;have a:k<p.length:=by omega
  refine jX k rfl rfl (eP a) rfl (jC rfl (fun b=>?_) (fun b=>?_))
  .rw[hJ]at b;refine gE rfl (jF rfl ?_);grind[C5]
  rw[hJ]at b;refine gE rfl (e (k+1) ⟨by omega,fun j c f=>?_⟩ (by omega) ?_);grind
  .exact ah rfl ⟨rfl,tr⟩ (by grind[ac,aa,wrap64])
 rw[af]at h1;refine gE rfl (jF rfl ?_);grind[CS]
theorem YS (p:Rp)(v:Spot)(a:p.length<4611686018427387904):PU 120 [ac p,v.enc]=some (.bool (decide (v∈p))):=by
 refine PS rfl ?_
 repeat' (first
  |refine jP rfl ?_
  |refine fI rfl ?_
  |refine aB rfl rfl (Ua p v a) ?_)
 grind[ca,B7]
def pt (p:Rp)(i:Nat):Spot:=p.getD i ⟨0,0⟩
theorem bc {p:Rp}{i:Nat}(h:i<p.length):pt p i=p[i]:=by grind[pt]
theorem aZ {p:Rp}{i:Nat}(h:i<p.length):(p.map Spot.enc)[i]?=some (pt p i).enc:=by grind[pt]
class OkP (p:Rp):Prop where
 ok:∀s∈p,OkS s
instance lq {p:Rp} [h:OkP p]{i:Nat}:OkS (pt p i):=by
 by_cases hi:i<p.length
 .rw[bc hi];exact h.ok _ (zE _)
 have:pt p i=⟨0,0⟩:=by grind[pt]
 rw[this];exact⟨by decide,by decide⟩
def je (p:Rp):Prop:=
 (∀i,i<p.length->pt p i∉p.take i)/\
 ∀i,i<p.length->gN (pt p i) (pt p ((i+1)%p.length)) (pt p ((i+2)%p.length))=false/\
  ∀k,k<p.length->i+2<=k->(k+1)%p.length≠i->ld (pt p i) (pt p ((i+1)%p.length)) (pt p k) (pt p ((k+1)%p.length))=false
instance (p:Rp):Decidable (je p):=by unfold je;exact inferInstance
theorem mC {a n:Nat}:((a:Int)).tmod (n:Int)=((a%n:Nat):Int):=by
 rfl
theorem XS (p:Rp) [OkP p](h3:3<=p.length)(Q:p.length<=1000):PU 79 [ac p]=some (.bool (decide (je p))):=by
 refine PS rfl (gg rfl ?_);have c:(p.map Spot.enc).all (fun d=>d.cells.length==2)=true:=dS (f:=Spot.enc) (n:=2) (fun _=>rfl) p;refine aw (S:=fun k:Nat=>([ac p,aa p.length,ac p,aa p.length,aa k],none::nn4,zz5)) (C:=fun k=>k<=p.length/\∀j,j<k->pt p j∉p.take j) (m:=fun k=>p.length-k) 0 ⟨by omega,fun j h=>by omega⟩ (by omega) ?_ ?_
 .exact ah rfl tr (by simp[ac,aa])
 intro k ⟨R,v⟩ N o;refine jC rfl (fun h1=>?_) (fun h1=>?_)
 .rw[ad]at h1;have b:k<p.length:=by omega
  refine jX k rfl rfl (aZ b) rfl (gg rfl (nK k rfl c ⟨_,_,rfl,rfl⟩ (by grind) ?_));refine gg rfl ?_;have I:=YS (p.take k) (pt p k) (by grind);rw[ac,yD]at I;refine aB rfl rfl I (jC rfl (fun l=>?_) (fun l=>?_))
  .refine gE rfl (jF rfl ?_);grind[je]
  refine gE rfl (o (k+1) ⟨by omega,fun j w=>?_⟩ (by omega) ?_);grind
  .exact ah rfl tr (by grind[ac,aa,wrap64])
 rw[af]at h1;have q:∀j,j<p.length->pt p j∉p.take j:=fun j w=>v j (by omega);clear o;refine gE rfl (gg rfl ?_)
 refine aw (S:=fun k:Nat=>([ac p,aa p.length,ac p,aa p.length,aa k],none::nn4,zz5))
  (C:=fun i=>i<=p.length/\∀j,j<i->gN (pt p j) (pt p ((j+1)%p.length)) (pt p ((j+2)%p.length))=false/\∀k,k<p.length->j+2<=k->(k+1)%p.length≠j->ld (pt p j) (pt p ((j+1)%p.length)) (pt p k) (pt p ((k+1)%p.length))=false)
  (m:=fun k=>p.length-k) 0 ⟨by omega,fun j h=>by omega⟩ (by omega) ?_ ?_
 .exact ah rfl tr (by simp[ac,aa])
 intro i ⟨hi,r⟩ N o;refine jC rfl (fun x=>?_) (fun x=>?_)
 .rw[ad]at x;have b:i<p.length:=by omega
  have T:=wS (n:=i);have U:IntKind.i64.wrap ((i:Int)+2)=((i+2:Nat):Int):=ww;refine jX i rfl rfl (aZ b) rfl (gg rfl (dx rfl rfl (by omega) ?_));refine jX ((i+1)%p.length) rfl (by grind) (aZ (zI _ (by omega))) rfl ?_;refine gg rfl (dx rfl rfl (by omega) ?_);refine jX ((i+2)%p.length) rfl (by grind) (aZ (zI _ (by omega))) rfl ?_;refine jA rfl (R1 (pt p i) (pt p ((i+1)%p.length)) (pt p ((i+2)%p.length))) (jC rfl (fun K=>?_) (fun K=>?_))
  .refine gE rfl (jF rfl ?_);have:¬je p:=fun y=>by have:=(y.2 i b).1;grind
   grind
  refine gg rfl ?_
  have fin:∀{t:ai} {h:ab} {z:Frz} {nx:Nat},(∀k,k<p.length->i+2<=k->(k+1)%p.length≠i->ld (pt p i) (pt p ((i+1)%p.length)) (pt p k) (pt p ((k+1)%p.length))=false)->
   (bz 0 [(0,0),(3,0),(25,0),(26,0),(27,0)] t h z nx fun _ _ kp=>kp=([ac p,aa p.length,ac p,aa p.length,aa ((i+1:Nat):Int)],none::nn4,zz5))->N t h z nx:=by
   intro t h z nx V A;refine o (i+1) ⟨by omega,fun j w=>?_⟩ (by omega) A;by_cases L:j<i
   grind;grind
  clear o
  refine aw (S:=fun k:Nat=>([ac p,aa p.length,aa i,.ptr 3 0 0,.ptr 4 0 0,aa k,ac p,aa p.length,aa i],none::none::none::some (.row [(pt p i).enc] 2)::some (.row [(pt p ((i+1)%p.length)).enc] 2)::nn4,zz9))
   (C:=fun k=>i+2<=k/\k<=p.length+2/\∀a,a<p.length->a<k->i+2<=a->(a+1)%p.length≠i->ld (pt p i) (pt p ((i+1)%p.length)) (pt p a) (pt p ((a+1)%p.length))=false)
   (m:=fun k=>p.length+2-k) (i+2) ⟨by omega,by omega,fun a _ h1 l=>by omega⟩ (by omega) ?_ ?_
  .exact ah rfl ⟨rfl,rfl,tr⟩ (by grind[ac,aa,Spot.enc])
  intro k ⟨B,M,g⟩ W D;refine gg rfl (au rfl (fun E=>?_) (fun E=>?_))
  .rw[ad]at E;have s:k<p.length:=by omega
   have F:=wS (n:=k);refine gg rfl (dx rfl rfl (by omega) ?_);refine jC rfl (fun u=>?_) (fun u=>?_)
   .rw[aO,F,mC]at u;have G:(k+1)%p.length≠i:=fun e=>u (by rw[e]);refine jX k rfl rfl (aZ s) rfl (gg rfl (dx rfl rfl (by omega) ?_));refine jX ((k+1)%p.length) rfl (by rw[F,mC]) (aZ (zI _ (by omega))) rfl ?_;refine jA rfl (Uz (pt p i) (pt p ((i+1)%p.length)) (pt p k) (pt p ((k+1)%p.length))) (jC rfl (fun O=>?_) (fun O=>?_))
    .refine gE rfl (gE rfl (jF rfl ?_));have:¬je p:=fun y=>by have:=(y.2 i b).2 k s B G;grind
     grind
    refine gE rfl (D (k+1) ⟨by omega,by omega,fun a h1 l h3 X=>?_⟩ (by omega) ?_);grind
    .exact ah rfl ⟨rfl,rfl,tr⟩ (by grind[ac,aa])
   rw[aE,F,mC]at u;have H:(k+1)%p.length=i:=by omega
   refine gE rfl (gE rfl (fin (fun a h1 l h3=>?_) ?_))
   .by_cases P:a<k
    grind
    .by_cases J:a=k
     grind
     .rw[zU (by omega)]at H;omega
   exact ah rfl tr (by grind[ac,aa])
  rw[af]at E;refine gg rfl (aj rfl (gE rfl (gE rfl (fin (fun a h1 l h3=>g a h1 (by omega) l h3) ?_))));exact ah rfl tr (by grind[ac,aa])
 rw[af]at x;refine gE rfl (jF rfl ?_);have:je p:=⟨q,fun j w=>r j (by omega)⟩;grind
theorem AK {s:Spot}{m:Int}:aD s m=true↔(-m<=s.x/\s.x<=m/\ -m<=s.y/\s.y<=m):=by simp[aD]
theorem Hh {p:Rp}(h:p.any (fun s=>!aD s 1048576)=false):OkP p:=by
 refine⟨fun s a=>?_⟩
 have:aD s 1048576=true:=by
  grind
 rw[AK]at this;exact⟨by omega,by omega⟩
def bE (p:Rp):Int:=
 if 40<p.length then 5 else if p.length<3 then 11 else if p.any (fun s=>!aD s 1048576)then 3 else if je p then 0 else 11
theorem pj (p:Rp):PU 35 [ac p]=some (.int .i64 (bE p)):=by
 refine PS rfl (jC rfl (fun h1=>?_) (fun h1=>?_))
 .refine jF rfl ?_;rw[ad]at h1;simp at h1;rw[bE,rA]
 refine gg rfl ?_;rw[af]at h1;simp at h1;refine an rfl (fun a=>?_) (fun a=>?_)
 .refine jF rfl ?_;rw[ad]at a;simp at a;rw[bE,eE,rA]
 refine gg rfl ?_;rw[af]at a;simp at a;refine aB rfl rfl (Ac 78 _ rfl TB p (by omega)) ?_;refine jC rfl (fun h3=>?_) (fun h3=>?_)
 .refine jF rfl ?_;grind[bE]
 refine gg rfl ?_;have:=Hh h3;refine aB rfl rfl (XS p (by omega) (by omega)) ?_;refine jC rfl (fun b=>?_) (fun b=>?_)
 .refine jF rfl ?_;simp at b;rw[bE,eE,eE,vd (by grind),vd b]
 refine jF rfl ?_;simp at b;rw[bE,eE,eE,vd (by grind),ve b]
def iT (p:Rp):Nat->Int
 |0=>0
 |k+1=>iT p k+((pt p k).x*(pt p ((k+1)%p.length)).y-(pt p k).y*(pt p ((k+1)%p.length)).x)
def dJ (p:Rp):Int:=iT p p.length
theorem GQ (p:Rp) [OkP p](k:Nat):Bd (iT p k) (k*35184372088832):=by
 induction k with
 |zero=>exact⟨by simp[iT]⟩
 |succ k a=>
  have h:Bd ((pt p k).x*(pt p ((k+1)%p.length)).y-(pt p k).y*(pt p ((k+1)%p.length)).x) _:=inferInstance;have:=h.le;have:=a.le;refine⟨?_⟩;grind[iT]
theorem H9 (p:Rp) [OkP p](c:p.length<=1000):PU 36 [ac p]=some (.int .i64 (dJ p)):=by
 refine PS rfl (gg rfl (aw (S:=fun k:Nat=>([ac p,aa (iT p k),ac p,aa p.length,aa k],none::nn4,zz5)) (C:=fun k=>k<=p.length) (m:=fun k=>p.length-k) 0 (by omega) (by omega) ?_ ?_))
 .exact ah rfl tr (by simp[ac,aa,iT])
 intro k d N b;refine jC rfl (fun h1=>?_) (fun h1=>?_)
 .rw[ad]at h1;have a:k<p.length:=by omega
  have e:=wS (n:=k);have f:=(GQ p k).le;have g:=(GQ p (k+1)).le;refine jX k rfl rfl (aZ a) rfl (gg rfl (dx rfl rfl (by grind) ?_));refine cg ((k+1)%p.length) rfl rfl (by grind) (aZ (zI _ (by omega))) rfl ?_;refine gE rfl (b (k+1) (by omega) (by omega) ?_);refine ah rfl tr ?_;grind[cH,iT,wrap64,ac,aa]
 rw[af]at h1;refine gE rfl (jF rfl ?_);obtain rfl:k=p.length:=by omega
 rfl
def eL (p:Rp):Int:=if bE p=0 then dJ p else 0
theorem fj {p:Rp}(h:bE p=0):3<=p.length/\p.length<=40/\OkP p/\(∀s∈p,aD s 1048576=true)/\je p:=by
 grind[bE,Hh]
theorem H4 (p:Rp):PU 12 [ac p]=some (.int .i64 (eL p)):=by
 refine PS rfl (jA rfl (pj p) (jC rfl (fun h=>?_) (fun h=>?_)))
 .refine jF rfl ?_;simp_all[aO,eL]
 rw[aE]at h;obtain⟨_,a,h3,_,_⟩:=fj h;refine jA rfl (H9 p (by omega)) ?_;refine jF rfl ?_;simp_all[eL]
def ic (p:Rp):Int:=
 if 40<p.length then 5 else if p.length<2 then 11 else if p.any (fun s=>!aD s 1048576)then 3 else if∀i,i<p.length-1->pt p i≠pt p (i+1)then 0 else 11
theorem M8 (p:Rp):PU 81 [ac p]=some (.int .i64 (ic p)):=by
 refine PS rfl (jC rfl (fun h1=>?_) (fun h1=>?_))
 .refine jF rfl ?_;rw[ad,zA]at h1;rw[ic,rA]
 refine gg rfl ?_;rw[af,zA]at h1;refine an rfl (fun a=>?_) (fun a=>?_)
 .refine jF rfl ?_;rw[ad,zA]at a;rw[ic,eE,rA]
 refine gg rfl ?_;rw[af,zA]at a;refine aB rfl rfl (Ac 124 _ rfl P2 p (by omega)) ?_;refine jC rfl (fun h3=>?_) (fun h3=>?_)
 .refine jF rfl ?_;rw[ic,eE,eE,ve h3]
 refine gg rfl (aw (S:=fun k:Nat=>([ac p,aa (p.length-1:Nat),aa k],none::nn2,zz3)) (C:=fun k=>k<=p.length-1/\∀i,i<k->pt p i≠pt p (i+1)) (m:=fun k=>p.length-k) 0 ⟨by omega,fun i hi=>by omega⟩ (by omega) ?_ ?_)
 .refine ah rfl tr ?_;grind[wrap64,ac,aa]
 intro k ⟨h,b⟩ N e;refine jC rfl (fun c=>?_) (fun c=>?_)
 .rw[ad]at c;have d:k+1<p.length:=by omega
  have f:=wS (n:=k);refine jX k rfl rfl (aZ (by omega)) rfl ?_;refine jX (k+1) rfl f (aZ d) rfl (jC rfl (fun g=>?_) (fun g=>?_))
  .refine gE rfl (jF rfl ?_);rw[ic,eE,eE,vd (by grind),vd];grind[hJ]
  refine gE rfl (e (k+1) ⟨by omega,fun i hi=>?_⟩ (by omega) (ah rfl tr (by grind[ac,aa])));grind[hJ]
 rw[af]at c;refine gE rfl (jF rfl ?_);rw[ic,eE,eE,vd (by grind),ve (fun i hi=>b i (by omega))]
def bJ (l:List Edge):Rp:=l.flatMap (fun e=>e.line.dropLast)
theorem EA {l:List Edge}{k:Nat}(h:k<l.length):bJ (l.take (k+1))=bJ (l.take k)++l[k].line.dropLast:=by
 grind[List.take_succ_eq_append_getElem,bJ]
theorem FC {l:List Edge}(k:Nat):(bJ (l.take k)).length<=(bJ l).length:=by
 grind[bJ,List.take_append_drop]
theorem bK {l:Hm}{n:Nat}(a:n=l.length)(h:l.all (dat 4)=true):0+n<=l.length/\((l.drop 0).take n).all (dat 4)=true:=by
 grind
theorem bZ {l:Hm}{n:Nat}(a:n=l.length):D.lst (l.take n)=.lst l:=by
 grind
theorem HV (l:List Edge)(h1:∀e∈l,1<=e.line.length/\e.line.length<=100000)(i:l.length<=100000)(j:(bJ l).length<=100000):PU 82 [edges l]=some (ac (bJ l)):=by
 refine PS rfl (gg rfl (aw (S:=fun k:Nat=>([.ref 0 0 (bJ (l.take k)).length,edges l,aa l.length,aa k],some (.row ((bJ (l.take k)).map Spot.enc) 2)::nn3,zz4)) (C:=fun k=>k<=l.length) (m:=fun k=>l.length-k) 0 (by omega) (by omega) ?_ ?_))
 .exact ah rfl ⟨rfl,tr⟩ (by simp[edges,aa,bJ])
 intro k o N h;refine jC rfl (fun c=>?_) (fun c=>?_)
 .rw[ad]at c;have b:k<l.length:=by omega
  have p:=wS (n:=k);have a:(l[k].line.map Spot.enc).all (fun d=>d.cells.length==2)=true:=dS (f:=Spot.enc) (n:=2) (fun _=>rfl) _;have g:=FC (l:=l) (k+1);rw[EA b,zL]at g;have q:IntKind.i64.wrap ((l[k].line.length:Int)-1)=((l[k].line.length-1:Nat):Int):=by grind[wrap64]
  refine jX k rfl rfl (eP b) rfl (gg rfl (nK (l[k].line.length-1) rfl a ⟨_,_,rfl,by grind⟩ (by simp) ?_))
  have e:(l[k].line.map Spot.enc).take (l[k].line.length-1)=l[k].line.dropLast.map Spot.enc:=by
   simp[List.dropLast_eq_take]
  rw[e];refine Av rfl rfl rfl (dS (f:=Spot.enc) (n:=2) (fun _=>rfl) _) (by simp) (zB _) (by grind[aK]) ?_;refine gE rfl (h (k+1) (by omega) (by omega) (ah rfl ⟨by grind[am],tr⟩ ?_));grind[edges,aa,EA]
 rw[af]at c;refine gE rfl (gg rfl ?_);obtain rfl:k=l.length:=by omega
 refine cS rfl rfl rfl ⟨bK (by simp) (bF fh _),tr⟩ ?_;simp[bZ,ac]
def eS (s:ByteArray)(i:Nat):UInt8:=s.toList.getD i 0
theorem UD (s:ByteArray):s.toList.length=s.size:=by simp[Go.ByteArray.toList_eq]
theorem BJ {s:ByteArray}{i:Nat}(h:i<s.size):s.toList[i]?=some (eS s i):=by
 grind[UD,eS]
def pC (n:Nat):Bool:=decide (48<=n)&&decide (n<=57)
theorem Pf (n:Nat):PU 259 [.int .u8 n]=some (.bool (pC n)):=by
 refine PS rfl ?_
 repeat' (first
  |refine jP rfl ?_
  |refine au rfl ?_ ?_<;>intro _
  |refine fI rfl ?_)
 all_goals ((try simp only[cw,ca,cC,eJ,zT,zQ,zj,zi,yO,yZ]at*);first|(simp_all[pC];done) |(simp_all[pC];omega) |(grind[pC]) |(rw[D.bool.injEq,zN];simp_all[pC];omega) |(simp[pC];split<;>(try split)<;>omega))
def oo (i n:Nat):Bool:=(decide (97<=n)&&decide (n<=122)) ||(!decide (i=0)&&(decide (n=95) ||pC n))
def ey (s:ByteArray):Bool:=
 !decide (s.size=0)&&(!decide (24<s.size)&&(!(s.toList==[109,105,110])&&(!(s.toList==[109,97,120])&&decide (∀i,i<s.size->oo i (eS s i).toNat=true))))
theorem UM {s:ByteArray}{b:Bool}(h:(s.toList==(⟨#[109,105,110]⟩:ByteArray).toList)=b):(s.toList==[109,105,110])=b:=by simp_all
theorem Rb {s:ByteArray}{b:Bool}(h:(s.toList==(⟨#[109,97,120]⟩:ByteArray).toList)=b):(s.toList==[109,97,120])=b:=by simp_all
theorem Pv (s:ByteArray):PU 225 [.str s]=some (.bool (ey s)):=by
 refine PS rfl (gg rfl (au rfl (fun h0=>?_) (fun h0=>?_)))
 .repeat' (first
   |refine jP rfl ?_
   |refine gr rfl ?_|refine aq rfl ?_|refine au rfl ?_ ?_<;>intro _
   |refine ak rfl ?_|refine aj rfl ?_|refine an rfl ?_ ?_<;>intro _
   |refine fI rfl ?_)
  grind[co,ey]
 refine gg rfl ?_;rw[dG]at h0;refine au rfl (fun h1=>?_) (fun h1=>?_)
 .repeat' (first
   |refine jP rfl ?_
   |refine gr rfl ?_|refine aq rfl ?_|refine au rfl ?_ ?_<;>intro _
   |refine ak rfl ?_|refine aj rfl ?_|refine an rfl ?_ ?_<;>intro _
   |refine fI rfl ?_)
  grind[ad,ey]
 refine gg rfl ?_;rw[af]at h1;refine au rfl (fun a=>?_) (fun a=>?_)
 .repeat' (first
   |refine jP rfl ?_
   |refine gr rfl ?_|refine aq rfl ?_|refine au rfl ?_ ?_<;>intro _
   |refine ak rfl ?_|refine aj rfl ?_|refine an rfl ?_ ?_<;>intro _
   |refine fI rfl ?_)
  simp_all[ey]
 refine gg rfl ?_
 replace a:=UM a
 refine an rfl (fun h3=>?_) (fun h3=>?_)
 .refine jF rfl ?_;simp_all[ey]
 refine gg rfl ?_
 replace h3:=Rb h3
 have key:∀b,(decide (∀i,i<s.size->oo i (eS s i).toNat=true))=b->ey s=b:=by
  grind[ey]
 refine aw (S:=fun k:Nat=>([.str s,aa s.size,aa k],none::nn2,zz3)) (C:=fun k=>k<=s.size/\∀i,i<k->oo i (eS s i).toNat=true) (m:=fun k=>s.size-k) 0 ⟨by omega,fun i hi=>by omega⟩ (by omega) ?_ ?_;rfl;intro k ⟨o,f⟩ N g;refine jC rfl (fun c=>?_) (fun c=>?_)
 .rw[ad]at c;have d:k<s.size:=by omega
  have j:=wS (n:=k)
  have e:oo k (eS s k).toNat=true->∀{t:ai} {h:ab} {z:Frz} {nx:Nat},(bz 0 [(0,0),(23,0),(24,0)] t h z nx fun _ _ kp=>kp=([.str s,aa s.size,aa ((k+1:Nat):Int)],none::nn2,zz3))->N t h z nx:=by
   grind
  have l:oo k (eS s k).toNat=false->ey s=false:=by
   grind
  clear g;refine gg rfl (eH k rfl rfl rfl (BJ d) ?_)
  repeat' (first
   |refine jP rfl ?_
   |refine gr rfl ?_|refine aq rfl ?_|refine au rfl ?_ ?_<;>intro _
   |refine ak rfl ?_|refine aj rfl ?_|refine an rfl ?_ ?_<;>intro _
   |refine aB rfl rfl (Pf _) ?_)
  all_goals refine bo ?_
  all_goals first
   |(refine e ?_ (ah rfl tr (by simp[aa,j]))
     simp only[cw,ca,cC,eJ,zT,zQ,zj,zi,yO,yZ]at*;simp_all[oo]
     try omega)
   |(refine gg rfl ?_
     refine fI rfl ?_;rw[l];simp only[cw,ca,cC,eJ,zT,zQ,zj,zi,yO,yZ]at*;simp_all[oo]
     try omega)
 rw[af]at c;refine gE rfl (jF rfl ?_);grind
theorem Qa:PU 224 [.int .i64 2]=some (.tup [.int .i64 0,.int .i64 0]):=by
 refine PS rfl ?_
 repeat' (first
  |refine jP rfl ?_
  |refine an rfl ?_ ?_<;>intro _
  |refine fI rfl ?_)
 all_goals simp_all[eqb]
theorem Y4:PU 227 [.agg [.bool false,.lst [],.lst []],.agg [.bool false,.lst [],.lst []]]=some (.int .i64 0):=uK (n:=30) (by kernel_rfl)
def CD (s:ByteArray):D:=.agg [.int .i64 2,.bool false,.lst [],.lst [],.str s,.lst []]
theorem V5 (s:ByteArray):PU 201 [CD s]=some (.bool (ey s)):=by
 refine PS rfl ?_
 repeat' (first
  |refine jP rfl ?_
  |refine au rfl ?_ ?_<;>intro _
  |refine an rfl ?_ ?_<;>intro _
  |refine fI rfl ?_
  |refine aB rfl rfl (Qa) ?_
  |refine aB rfl rfl (Pv s) ?_
  |refine aB rfl rfl (Y4) ?_)
 all_goals simp_all[ltb,eqb]
theorem S7 (s:ByteArray):PU 168 [CD s,.int .i64 1]=some (.int .i64 (if ey s then 0 else 1)):=by
 refine PS rfl (jC rfl (fun h=>?_) (fun h=>?_))
 .exact absurd h (by simp[ltb])
 refine jA rfl (V5 s) (jC rfl (fun h1=>?_) (fun h1=>?_))
 .repeat' (first
   |refine jP rfl ?_
   |refine an rfl ?_ ?_<;>intro _
   |refine fI rfl ?_)
  grind
 refine gg rfl (aw (S:=fun _:Unit=>([.int .i64 1,.lst [],.int .i64 0,.int .i64 0],none::nn3,zz4)) (C:=fun _=>True) (m:=fun _=>0) () tr (by decide) ?_ ?_);rfl;intro _ _ N a
 repeat' (first
  |refine jP rfl ?_
  |refine an rfl ?_ ?_<;>intro _
  |refine fI rfl ?_)
 .exact absurd ‹ltb _ _=true› (by simp[ltb])
 refine bo (jF rfl ?_);grind
theorem FQ (s:ByteArray):PU 123 [CD s]=some (.int .i64 (if ey s then 0 else 1)):=by
 refine PS rfl (jA rfl (S7 s) ?_)
 repeat' (first
  |refine jP rfl ?_
  |refine fI rfl ?_)
 rfl
theorem QN (s:ByteArray):PU 80 [.str s]=some (.bool (ey s)):=by
 refine PS rfl (jA rfl (FQ s) ?_)
 repeat' (first
  |refine jP rfl ?_
  |refine fI rfl ?_)
 grind[eqb]
def cI (f:Nat->Int):Nat->Int
 |0=>0
 |k+1=>if cI f k=0 then f k else cI f k
theorem AB {f:Nat->Int}{k n:Nat}(h0:cI f k=0)(h1:f k≠0)(h:k<n):cI f n=f k:=by
 induction n with
 |zero=>omega
 |succ n a=>
  rw[cI];grind
theorem Ak {f:Nat->Int}{k:Nat}(h0:cI f k=0)(h1:f k=0):cI f (k+1)=0:=by
 simp_all[cI]
theorem Aj {f:Nat->Int}{n k:Nat}(h0:cI f n=0)(h:k<n):f k=0:=by
 induction n with
 |zero=>omega
 |succ n a=>
  grind[cI]
def eg (l:List Edge)(i:Nat):Edge:=l.getD i ⟨⟨#[]⟩,[]⟩
theorem mc {l:List Edge}{i:Nat}(h:i<l.length):(l.map Edge.enc)[i]?=some (eg l i).enc:=by grind[eg]
theorem ZB {l:List Edge}{i:Nat}(h:i<l.length):eg l i=l[i]:=by grind[eg]
def uw (l:List Edge)(i:Nat):Bool:=(List.range i).any fun j=>(eg l j).name.toList==(eg l i).name.toList
theorem Zf {l:List Edge}{i j:Nat}(a:j<i)(h:(eg l j).name.toList==(eg l i).name.toList):uw l i=true:=
 xc.2 ⟨j,yN.2 a,h⟩
theorem Rn {l:List Edge}{i:Nat}(h:∀j,j<i->((eg l j).name.toList==(eg l i).name.toList)=false):uw l i=false:=by
 grind[uw]
def hX (l:List Edge)(i:Nat):Int:=
 if ey (eg l i).name=false then 1 else if uw l i then 7 else ic (eg l i).line
def mS (l:List Edge)(i:Nat):Int:=
 if pt (eg l i).line ((eg l i).line.length-1)=pt (eg l ((i+1)%l.length)).line 0 then 0 else 11
def cK (l:List Edge):Int:=
 if 16<l.length then 5 else if l.length<2 then 11
 else if cI (hX l) l.length=0 then
  if cI (mS l) l.length=0 then bE (bJ l)else cI (mS l) l.length
 else cI (hX l) l.length
theorem si {p:Rp}(h:ic p=0):2<=p.length/\p.length<=40/\(∀s∈p,aD s 1048576=true):=by
 grind[ic]
theorem DO {l:List Edge}{i:Nat}(h:hX l i=0):ic (eg l i).line=0:=by
 grind[hX]
theorem XG {l:List Edge}{m:Nat}(h:∀e∈l,e.line.length<=m):(bJ l).length<=l.length*m:=by
 induction l with
 |nil=>simp[bJ]
 |cons e l a=>
  grind[bJ,Nat.succ_mul]
theorem Gq {l:List Edge}{e:Edge}(h:e∈l):∃i,i<l.length/\eg l i=e:=by
 obtain⟨i,hi,rfl⟩:=wR h;exact⟨i,hi,ZB hi⟩
theorem EL (l:List Edge):PU 39 [edges l]=some (.int .i64 (cK l)):=by
 refine PS rfl (jC rfl (fun h1=>?_) (fun h1=>?_))
 .refine jF rfl ?_;rw[ad,zA]at h1;rw[cK,rA]
 refine gg rfl ?_;rw[af,zA]at h1;refine an rfl (fun x=>?_) (fun x=>?_)
 .refine jF rfl ?_;rw[ad,zA]at x;rw[cK,eE,rA]
 refine gg rfl ?_;rw[af,zA]at x;have c:(l.map Edge.enc).all (fun d=>d.cells.length==2)=true:=dS (f:=Edge.enc) (n:=2) (fun _=>rfl) l;refine aw (S:=fun k:Nat=>([edges l,edges l,aa l.length,aa k],none::nn3,zz4)) (C:=fun k=>k<=l.length/\cI (hX l) k=0) (m:=fun k=>l.length-k) 0 ⟨by omega,rfl⟩ (by omega) ?_ ?_
 .exact ah rfl tr (by simp[edges,aa])
 intro k ⟨M,a⟩ N v;refine jC rfl (fun o=>?_) (fun o=>?_)
 .rw[ad]at o;have b:k<l.length:=by omega
  have O:=wS (n:=k)
  have y:hX l k=0->∀{t:ai} {h:ab} {z:Frz} {nx:Nat},(bz 0 [(0,0),(17,0),(18,0),(19,0)] t h z nx fun _ _ kp=>kp=([edges l,edges l,aa l.length,aa ((k+1:Nat):Int)],none::nn3,zz4))->N t h z nx:=
   fun A {t h z nx} B=>v (k+1) ⟨by omega,Ak a A⟩ (by omega) B
  have Q:hX l k≠0->cK l=hX l k:=by
   intro A;have:=AB a A b;rw[cK,eE,eE,eE,this]
  clear v;refine jX k rfl rfl (mc b) rfl (jA rfl (QN (eg l k).name) (jC rfl (fun q=>?_) (fun q=>?_)))
  .refine gE rfl (jF rfl ?_);simp_all[hX]
  have D:¬ey (eg l k).name=false:=by grind
  refine gg rfl (nK k rfl c ⟨_,_,rfl,rfl⟩ (by grind) ?_);refine gg rfl ?_
  refine aw (S:=fun j:Nat=>([edges l,.ptr 1 0 0,edges l,aa l.length,aa k,edges (l.take k),aa k,aa j],none::some (.row [(eg l k).enc] 2)::nn6,zz8))
   (C:=fun j=>j<=k/\∀i,i<j->((eg l i).name.toList==(eg l k).name.toList)=false) (m:=fun j=>k-j) 0 ⟨by omega,fun i hi=>by omega⟩ (by omega) ?_ ?_
  .exact ah rfl ⟨rfl,tr⟩ (by grind[edges,aa,ac,Edge.enc,List.map_take])
  intro j ⟨R,E⟩ T F;refine jC rfl (fun G=>?_) (fun G=>?_)
  .rw[ad]at G;have r:j<k:=by omega
   have U:=wS (n:=j)
   have H:((l.take k).map Edge.enc)[j]?=some (eg l j).enc:=by
    rw[yD,List.getElem?_take,ve r];grind[mc]
   refine jX j rfl rfl H rfl (jC rfl (fun K=>?_) (fun K=>?_))
   .refine gE rfl (gE rfl (jF rfl ?_));have:hX l k=7:=by rw[hX,vd D,ve (Zf r K)]
    grind
   refine gE rfl (F (j+1) ⟨by omega,fun i hi=>?_⟩ (by omega) (ah rfl ⟨rfl,tr⟩ (by grind[edges,aa])));grind
  rw[af]at G;refine gE rfl (gg rfl ?_);have P:uw l k=false:=Rn fun i hi=>E i (by omega);have s:hX l k=ic (eg l k).line:=by simp_all[hX]
  refine aB rfl rfl (M8 (eg l k).line) (jC rfl (fun w=>?_) (fun w=>?_))
  .rw[aO,<-s]at w;refine gE rfl (jF rfl ?_);grind
  rw[aE,<-s]at w;exact gE rfl (y w (ah rfl tr (by grind[edges,aa])))
 rw[af]at o;obtain rfl:k=l.length:=by omega
 have u:∀i,i<l.length->2<=(eg l i).line.length/\(eg l i).line.length<=40/\_:=fun i hi=>si (DO (Aj a hi));refine gE rfl (gg rfl (aw (S:=fun k:Nat=>([edges l,edges l,aa l.length,aa k],none::nn3,zz4)) (C:=fun k=>k<=l.length/\cI (mS l) k=0) (m:=fun k=>l.length-k) 0 ⟨by omega,rfl⟩ (by omega) ?_ ?_))
 .exact ah rfl tr (by simp[edges,aa])
 intro k ⟨M,p⟩ N v;refine jC rfl (fun o=>?_) (fun o=>?_)
 .rw[ad]at o;have b:k<l.length:=by omega
  have g:(k+1)%l.length<l.length:=zI _ (by omega);have O:=wS (n:=k);have V:=u k b;have W:=u _ g;have X:IntKind.i64.wrap (((eg l k).line.length:Int)-1)=(((eg l k).line.length-1:Nat):Int):=by grind[wrap64]
  refine jX k rfl rfl (mc b) rfl (gg rfl (dx rfl rfl (by grind) ?_));refine cg ((k+1)%l.length) rfl rfl (by grind) (mc g) rfl ?_;refine jX ((eg l k).line.length-1) rfl (by grind) (aZ (by omega)) rfl ?_;refine jX 0 rfl rfl (aZ (by omega)) rfl ?_;refine jC rfl (fun q=>?_) (fun q=>?_)
  .refine gE rfl (jF rfl ?_);rw[hJ]at q;have:mS l k=11:=by simp_all[mS]
   have I:=AB p (by omega) b;rw[cK,eE,eE,ve a,eE,I,this]
  refine gE rfl ?_;rw[hJ]at q;have:mS l k=0:=by simp_all[mS]
  refine v (k+1) ⟨by omega,Ak p this⟩ (by omega) (ah rfl tr (by grind[edges,aa]))
 rw[af]at o;obtain rfl:k=l.length:=by omega
 refine gE rfl (gg rfl ?_)
 have L:∀e∈l,1<=e.line.length/\e.line.length<=40:=by
  grind[Gq]
 have Y:=XG (m:=40) fun e J=>(L e J).2;refine aB rfl rfl (HV l (fun e J=>⟨(L e J).1,by grind⟩) (by omega) (by omega)) ?_;refine aB rfl rfl (pj (bJ l)) (jF rfl ?_);rw[cK,eE,eE,ve a,ve p]
theorem qC {l:List Edge}(h:cK l=0):2<=l.length/\l.length<=16/\cI (hX l) l.length=0/\cI (mS l) l.length=0/\bE (bJ l)=0:=by
 grind[cK]
theorem Ae {l:List Edge}(h:cK l=0):∀e∈l,2<=e.line.length/\e.line.length<=40:=by
 grind[Gq,si,DO,Aj,qC]
def rF (l:List Edge):D:=if cK l=0 then .tup [ac (bJ l),.int .i64 0]else .tup [.lst [],.int .i64 (cK l)]
theorem LG (l:List Edge):PU 43 [edges l]=some (rF l):=by
 refine PS rfl (jA rfl (EL l) (jC rfl (fun h=>?_) (fun h=>?_)))
 .rw[aO]at h;refine jF rfl ?_;simp_all[rF]
 rw[aE]at h;have a:=Ae h;have:=qC h;have b:=fj this.2.2.2.2;refine jA rfl (HV l (fun e c=>⟨by grind,by grind⟩) (by omega) (by omega)) ?_;refine jF rfl ?_;simp_all[rF,ac]
end Go.F
namespace Go.F
structure Ntc where
 edge:Int
 at_:Int
 deriving DecidableEq
def Ntc.enc (n:Ntc):D:=.agg [.int .i64 n.edge,.int .i64 n.at_]
def ntcs (l:List Ntc):D:=.lst (l.map Ntc.enc)
structure Piece where
 name:ByteArray
 edges:List Edge
 grain:Int
 notches:List Ntc
 corners:Rp
 widths:List Int
 match_:Bool
def Piece.enc (p:Piece):D:=.agg [.str p.name,Go.F.edges p.edges,.int .i64 p.grain,ntcs p.notches,ac p.corners,ints p.widths,.bool p.match_]
def pieces (l:List Piece):D:=.lst (l.map Piece.enc)
structure Use where
 piece:Int
 count:Int
 pair:Bool
def Use.enc (u:Use):D:=.agg [.int .i64 u.piece,.int .i64 u.count,.bool u.pair]
def uses (l:List Use):D:=.lst (l.map Use.enc)
structure Sew where
 pa:Int
 ea:Int
 pb:Int
 eb:Int
 rev:Bool
 ease:Int
def Sew.enc (s:Sew):D:=.agg [.int .i64 s.pa,.int .i64 s.ea,.int .i64 s.pb,.int .i64 s.eb,.bool s.rev,.int .i64 s.ease]
def sews (l:List Sew):D:=.lst (l.map Sew.enc)
structure Opn where
 name:ByteArray
 machine:Int
 minutes:Int
 after:List Int
 uses:List Int
def Opn.enc (o:Opn):D:=.agg [.str o.name,.int .i64 o.machine,.int .i64 o.minutes,ints o.after,ints o.uses]
def opns (l:List Opn):D:=.lst (l.map Opn.enc)
def strs (l:List ByteArray):D:=.lst (l.map .str)
structure Sty where
 name:ByteArray
 sizes:List ByteArray
 mults:List Int
 pieces:List Piece
 uses:List Use
 seams:List Sew
 ops:List Opn
def Sty.enc (s:Sty):D:=.agg [.str s.name,strs s.sizes,ints s.mults,Go.F.pieces s.pieces,Go.F.uses s.uses,sews s.seams,opns s.ops]
def pc (l:List Piece)(i:Nat):Piece:=l.getD i ⟨⟨#[]⟩,[],0,[],[],[],false⟩
theorem E5 {l:List Piece}{i:Nat}(h:i<l.length):pc l i=l[i]:=by grind[pc]
theorem qF {l:List Piece}{i:Nat}(h:i<l.length):(l.map Piece.enc)[i]?=some (pc l i).enc:=by grind[pc]
theorem BN {l:List Piece}{i:Nat}(h:i<l.length):pc l i∈l:=by grind[E5]
def nt (l:List Ntc)(i:Nat):Ntc:=l.getD i ⟨0,0⟩
theorem Yk {l:List Ntc}{i:Nat}(h:i<l.length):nt l i=l[i]:=by grind[nt]
theorem nt_enc {l:List Ntc}{i:Nat}(h:i<l.length):(l.map Ntc.enc)[i]?=some (nt l i).enc:=by grind[nt]
def us (l:List Use)(i:Nat):Use:=l.getD i ⟨0,0,false⟩
theorem qz {l:List Use}{i:Nat}(h:i<l.length):us l i=l[i]:=by grind[us]
theorem s7 {l:List Use}{i:Nat}(h:i<l.length):(l.map Use.enc)[i]?=some (us l i).enc:=by grind[us]
def sw (l:List Sew)(i:Nat):Sew:=l.getD i ⟨0,0,0,0,false,0⟩
theorem sw_enc {l:List Sew}{i:Nat}(h:i<l.length):(l.map Sew.enc)[i]?=some (sw l i).enc:=by grind[sw]
def sz (l:List ByteArray)(i:Nat):ByteArray:=l.getD i ⟨#[]⟩
theorem sz_get {l:List ByteArray}{i:Nat}(h:i<l.length):sz l i=l[i]:=by grind[sz]
theorem sz_enc {l:List ByteArray}{i:Nat}(h:i<l.length):(l.map D.str)[i]?=some (.str (sz l i)):=by grind[sz]
def mu (l:List Int)(i:Nat):Int:=l.getD i 0
theorem mu_enc {l:List Int}{i:Nat}(h:i<l.length):(l.map aa)[i]?=some (aa (mu l i)):=by grind[mu]
theorem mb {sh:Sh}{α:Type}{enc:α->D}(h:∀x,HasC sh x->∃a,mkD sh x=enc a){c:Hm}(b:HasC (.sl sh) c):∃l:List α,c=[.lst (l.map enc)]/\l.length<=maxLen:=by
 obtain⟨l,h1,d⟩:=Kg h b;refine⟨l,?_,d⟩
 cases b with
 |sl _ es _ _=>rw[<-h1];rfl
def BY:Sh:=.st [.int .i64,.int .i64]
def Dd:Sh:=.st [.str,WD,.int .i64,.sl BY,.sl AA,mW,.bool]
def Cr:Sh:=.st [.int .i64,.int .i64,.bool]
def En:Sh:=.st [.int .i64,.int .i64,.int .i64,.int .i64,.bool,.int .i64]
def Fb:Sh:=.st [.str,.int .i64,.int .i64,mW,mW]
def OL:Sh:=.st [.str,.sl .str,mW,.sl Dd,.sl Cr,.sl En,.sl Fb]
theorem sv {x:Hm}(h:HasC (.int .i64) x):∃n:Int,mkD (.int .i64) x=aa n:=by
 obtain⟨n,rfl,_⟩:=dp h;exact⟨n,rfl⟩
theorem SK {x:Hm}(h:HasC BY x):∃n:Ntc,mkD BY x=n.enc:=by
 obtain⟨a,b,rfl,e,f⟩:=bp h;obtain⟨c,d,rfl,g,i⟩:=bp f;obtain⟨n,rfl,_⟩:=dp e;obtain⟨m,rfl,_⟩:=dp g;obtain rfl:=gY i;exact⟨⟨n,m⟩,rfl⟩
theorem VL {x:Hm}(h:HasC Cr x):∃n:Use,mkD Cr x=n.enc:=by
 obtain⟨a,b,rfl,g,i⟩:=bp h;obtain⟨c,d,rfl,j,l⟩:=bp i;obtain⟨e,f,rfl,o,p⟩:=bp l;obtain⟨n,rfl,_⟩:=dp g;obtain⟨m,rfl,_⟩:=dp j;obtain⟨k,rfl⟩:=B2 o;obtain rfl:=gY p;exact⟨⟨n,m,k⟩,rfl⟩
theorem Yf {x:Hm}(h:HasC En x):∃n:Sew,mkD En x=n.enc:=by
 obtain⟨s,t,rfl,h1,a⟩:=bp h;obtain⟨u,v,rfl,b,c⟩:=bp a;obtain⟨w,y,rfl,h3,d⟩:=bp c;obtain⟨z,A,rfl,e,f⟩:=bp d;obtain⟨B,C,rfl,g,i⟩:=bp f;obtain⟨E,F,rfl,j,k⟩:=bp i;obtain⟨l,rfl,_⟩:=dp h1;obtain⟨m,rfl,_⟩:=dp b;obtain⟨o,rfl,_⟩:=dp h3;obtain⟨p,rfl,_⟩:=dp e;obtain⟨q,rfl⟩:=B2 g;obtain⟨r,rfl,_⟩:=dp j;obtain rfl:=gY k;exact⟨⟨l,m,o,p,q,r⟩,rfl⟩
theorem PT {x:Hm}(h:HasC Fb x):∃n:Opn,mkD Fb x=n.enc:=by
 obtain⟨q,r,rfl,h1,b⟩:=bp h;obtain⟨s,t,rfl,c,d⟩:=bp b;obtain⟨u,v,rfl,h3,e⟩:=bp d;obtain⟨w,y,rfl,f,g⟩:=bp e;obtain⟨z,A,rfl,i,j⟩:=bp g;obtain⟨k,rfl,_⟩:=tI h1;obtain⟨l,rfl,_⟩:=dp c;obtain⟨m,rfl,_⟩:=dp h3;obtain⟨o,rfl,_⟩:=mb (fun _ a=>sv a) f;obtain⟨p,rfl,_⟩:=mb (fun _ a=>sv a) i;obtain rfl:=gY j;exact⟨⟨k,l,m,o,p⟩,rfl⟩
section
variable {T:Tab}{sh:Shr}{nx0:Nat}{s:List Fr}{t:ai}{h:ab}{z:Frz}{nx:Nat}{q:Ex->ai->ab->Frz->Nat->Prop}
variable {base i:Nat}{res:List Nat}{dst:Nat}{g:Gd}{rest:List KOper}
theorem lr {f:FuncId}{args:List X}{c:Hm}{a:List (Hm×Nat×Nat)}{r:D}(d:T.shared f=false)
 (e:nY (g.h base h) (args.map (·.ev t))=some (a,c)) (hr:gV a) (j:T.pu f c=some r)
 (b:∀z,wpM T sh nx0 (.ops base res rest::s) .normal (upd t dst r) h z nx q):
 wpM T sh nx0 (.ops base res (⟨i,some dst,none,g,.callF f args⟩::rest)::s) .normal t h z nx q:=by
 refine bP ?_;simp only[kop,eQ,d];refine u7 e hr ?_;unfold mf;refine⟨r,j,?_⟩;simp only[iu];split
 .exact b _
 split
 .exact b _
 exact b _
theorem gk {f:FuncId}{args:List X}{b:Hm}{a:List (Hm×Nat×Nat)}{r:D}(c:T.shared f=false)
 (d:nY (g.h base h) (args.map (·.ev t))=some (a,b)) (hr:gV a) (e:T.pu f b=some r) (j:noRef 4 r=true)
 (k:wpM T sh nx0 (.ops base res rest::s) .normal (upd t dst r) h z nx q):
 wpM T sh nx0 (.ops base res (⟨i,some dst,none,g,.callF f args⟩::rest)::s) .normal t h z nx q:=by
 refine bP ?_;simp only[kop,eQ,c];refine u7 d hr ?_;unfold mf;refine⟨r,e,?_⟩;simp only[iu,j];exact k
theorem MO {n:Nat}{a x:X}{dst:Option Nat}{id off len:Nat}{es l:Hm}{esz:Nat}(b:a.ev t=.ref id off len)(hr:g.h base h id=some (.row es esz))(c:Nat.beq n esz=true)(e:x.ev t=.lst l)
 (f:l.all (fun d=>d.cells.length==n)=true) (j:off+len<=es.length) (k:g.z base z id<=off)
 (m:wpM T sh nx0 (.ops base res rest::s) .normal (put t dst (.int .i64 (min l.length len:Nat))) (upd h id (some (.row (es.take off++l.take (min l.length len)++es.drop (off+min l.length len)) esz))) z nx q):
 wpM T sh nx0 (.ops base res (⟨i,dst,none,g,.copy n a x⟩::rest)::s) .normal t h z nx q:=by
 refine bP ?_;grind[kop,Bg,mh,lj,dC]
theorem bH {e:EqK}{x y:X}{c d:IntKind}{a b:Int}(n k:Nat)(f:x.ev t=.int c a)(j:y.ev t=.int d b)(m:a=n)(o:b=k)(l:k<=c.bits)
 (p:wpM T sh nx0 (.ops base res rest::s) .normal (upd t dst (.int c ((n/2^k:Nat):Int))) h z nx q):
 wpM T sh nx0 (.ops base res (⟨i,some dst,none,g,.bin .shr e x y⟩::rest)::s) .normal t h z nx q:=by
 refine atShr f j (by omega) ?_;grind
theorem kJ {e:EqK}{x y:X}{c d:IntKind}{a b:Int}(n k:Nat)(f:x.ev t=.int c a)(j:y.ev t=.int d b)(m:a=n)(o:b=k)(l:k<=c.bits)(p:c.wrap ((n*2^k:Nat):Int)=((n*2^k:Nat):Int))
 (r:wpM T sh nx0 (.ops base res rest::s) .normal (upd t dst (.int c ((n*2^k:Nat):Int))) h z nx q):
 wpM T sh nx0 (.ops base res (⟨i,some dst,none,g,.bin .shl e x y⟩::rest)::s) .normal t h z nx q:=by
 refine atShl f j (by omega) ?_;grind
def setMN (nx0:Nat)(live:Live)(t:ai)(h:ab)(z:Frz)(nx:Nat):Option (List Hm×ab×Frz×Kept):=
 match ky live t h z nx with
 |(t,h,z)=>
  match m9 t h live with
  |some a=>fL1 (mD nx0 (bh t live) t live) fun vs=>fLi (nJ nx0 (bh t live) h (bh t live) nx0) fun b=>fNs (oh nx0 (bh t live) z (bh t live) nx0) fun c=>some (a,h,z,vs,b,c)
  |none=>none
theorem ba {live:Live}{a:List Hm}{h':ab}{z':Frz}{kp:Kept}{K:ab->Frz->Kept->Prop}(c:setMN nx0 live t h z nx=some (a,h',z',kp))(d:ZA a)(e:K h' z' kp)(b:eV live=false:=by rfl):bz nx0 live t h z nx K:=by
 grind[setMN,il,BK,KC,bz,pG,BI,IN,sW,tu]
theorem bO {α:Type}(S:α->Kept)(O:α->ab->Frz->Prop)(C:α->Prop)(m:α->Nat){live:Live}{c:K}
 (a:α) (g:C a) (l:m a<2^62) (h0:bz nx0 live t h z nx fun h z kp=>kp=S a/\O a (iX live nx0 h) z)
 (hr:∀a,C a->∀(u:ab) (v:Frz),O a u v->∀N:ai->ab->Frz->Nat->Prop,(∀e {t:ai} {h:ab} {z:Frz} {nx:Nat},C e->m e<m a->(bz nx0 live t h z nx fun h z kp=>kp=S e/\O e (iX live nx0 h) z)->N t h z nx)->
   wpM T sh nx0 [.code c] .normal (mkT live (S a).1) (mkF nx0 u none (S a).2.1 nx0) (mkF nx0 v 0 (S a).2.2 nx0) (nx0+live.length) fun f t h z nx=>
    match f with
    |.normal=>N t h z nx
    |.exit i=>wpM T sh nx0 s (.exit i) t h z nx q
    |.ret=>wpM T sh nx0 s .ret t h z nx q):
 wpM T sh nx0 (.code (.loop live c)::s) .normal t h z nx q:=by
 simp only[wpM,wp]at hr⊢;unfold tA
 have key:∀(n:Nat) (a:α),C a->m a<=n->∀(b:Nat),n<b->∀(t:ai) (h:ab) (z:Frz) (nx:Nat),(bz nx0 live t h z nx fun h z kp=>kp=S a/\O a (iX live nx0 h) z)->
  q5k nx0 live (fun t h z nx q=>wp T sh nx0 c t h z nx q) b t h z nx fun f t h z nx=>wpM T sh nx0 s f t h z nx q:=by
  intro n
  induction n with
  |zero=>
   intro a g l b w t h z nx d;obtain⟨b,rfl⟩:∃k,b=k+1:=⟨b-1,by omega⟩;obtain⟨h1,x,kp,o,p⟩:=my d;refine p _ ?_;obtain⟨rfl,r⟩:=o;exact hr a g _ _ r (fun t h z nx=>q5k nx0 live (fun t h z nx q=>wp T sh nx0 c t h z nx q) b t h z nx fun f t h z nx=>wpM T sh nx0 s f t h z nx q) (fun e _ _ _ _ _ j _=>absurd j (by omega))
  |succ n y=>
   intro a g l b w t h z nx d;obtain⟨b,rfl⟩:∃k,b=k+1:=⟨b-1,by omega⟩;obtain⟨h1,x,kp,o,p⟩:=my d;refine p _ ?_;obtain⟨rfl,r⟩:=o
   exact hr a g _ _ r (fun t h z nx=>q5k nx0 live (fun t h z nx q=>wp T sh nx0 c t h z nx q) b t h z nx fun f t h z nx=>wpM T sh nx0 s f t h z nx q)
    (fun e t h z nx h1 j d=>y e h1 (by omega) b (by omega) t h z nx d)
 exact key (m a) a g (zD _) vU l t h z nx h0
end
section
variable {T:Tab}{sh:Shr}{nx0:Nat}{s:List Fr}{t:ai}{h:ab}{z:Frz}{nx:Nat}{q:Ex->ai->ab->Frz->Nat->Prop}
abbrev Rep:=Option (Hm×List Nat)
inductive Obl where
 |p (es:Hm)
 |s (h:ab) (es l:Hm) (rs:List Nat)
def Obl.ok:Obl->Prop
 |.p es=>es.all (plain 4)=true
 |.s h es l rs=>es.all (plain 4)=false/\es.mapM (aG h 8)=some l/\es.flatMap (aN h depth)=rs/\l.all (plain 4)=true
def BG:List Obl->Prop
 |[]=>True
 |o::r=>o.ok/\BG r
end
theorem Ze {h:ab}:∀(n m:Nat) (d:D),dat n d=true->aN h m d=[]:=by
 intro n
 induction n with
 |zero=>simp[dat]
 |succ n c=>
  intro m d b
  cases m with
  |zero=>rfl
  |succ m=>
   have a:∀l:Hm,l.all (dat n)=true->l.flatMap (aN h m)=[]:=by
    simp_all
   cases d with
   |agg l=>grind[dat,aN]
   |tup l=>grind[dat,aN]
   |_=>first|(simp[dat]at b;done) |rfl
theorem sN {h:ab}{es:Hm}{m:Nat}(a:es.all (dat 4)=true):es.flatMap (aN h m)=[]:=by
 grind[List.flatMap_eq_nil_iff,Ze]
attribute [local irreducible] IntKind.wrap wpM
end Go.F
namespace Go.F
def Ap (p:Rp):Prop:=
 ∀i,i<p.length->(pt p i≠pt p ((i+1)%p.length)/\onS (pt p i) (pt p ((i+1)%p.length)) (pt p ((i+2)%p.length))=false/\onS (pt p ((i+1)%p.length)) (pt p ((i+2)%p.length)) (pt p i)=false)/\
  ∀k,k<p.length->i+2<=k->(k+1)%p.length≠i->ld (pt p i) (pt p ((i+1)%p.length)) (pt p k) (pt p ((k+1)%p.length))=false
instance (p:Rp):Decidable (Ap p):=by unfold Ap;exact inferInstance
theorem sr (t:Int):0<=t*t:=by
 rcases vA 0 t with h|h
 simp_all[vI];simp_all[xr]
theorem Sq {b c vx a:Int}(f:b*a=c*vx)(g:0<b*vx+c*a):0<=b*vx/\0<=c*a:=by
 have e:(b*vx) *(c*a)=(b*a) *(b*a):=by
  grind
 have d:=sr (b*a);rw[<-e]at d;constructor
 .refine yO.1 fun h=>?_;have:=we h (show 0<c*a by omega);omega
 grind[Int.mul_neg_of_pos_of_neg]
theorem rh {u v:Int}(b:0<=u*v)(c:v.natAbs<=u.natAbs):min u 0<=v/\v<=max u 0:=by
 rcases Int.lt_trichotomy v 0 with h|h|h
 .have:u<=0:=by
   refine yO.1 fun a=>?_;have:=Int.mul_neg_of_pos_of_neg a h;omega
  omega
 omega
 .have:0<=u:=by
   refine yO.1 fun a=>?_;have:=we a h;omega
  omega
theorem YC (a b c:Spot):ay a b c=(a.y-b.y) *(c.x-b.x)-(a.x-b.x) *(c.y-b.y):=by
 grind[ay]
theorem ux (a b c:Spot):ay b c a=ay a b c:=by grind[ay]
theorem qP {a b p:Spot}:onS a b p=true↔ay a b p=0/\min a.x b.x<=p.x/\p.x<=max a.x b.x/\min a.y b.y<=p.y/\p.y<=max a.y b.y:=by simp[onS]
theorem AI {a b c:Spot}:gN a b c=true↔ay a b c=0/\0<(a.x-b.x) *(c.x-b.x)+(a.y-b.y) *(c.y-b.y):=by simp[gN]
theorem XJ {a b c:Spot}(h:gN a b c=true):onS a b c=true\/onS b c a=true:=by
 rw[AI]at h;obtain⟨h1,k⟩:=h;have i:(a.x-b.x) *(c.y-b.y)=(a.y-b.y) *(c.x-b.x):=by grind[YC]
 obtain⟨d,e⟩:=Sq i k;have l:(a.x-b.x).natAbs*(c.y-b.y).natAbs=(a.y-b.y).natAbs*(c.x-b.x).natAbs:=by rw[<-yV,<-yV,i]
 rw[qP,qP,ux a b c];by_cases j:(c.x-b.x).natAbs<=(a.x-b.x).natAbs
 .by_cases f:(c.y-b.y).natAbs<=(a.y-b.y).natAbs
  .have:=rh d j;have:=rh e f;omega
  by_cases g:(a.x-b.x).natAbs<=(c.x-b.x).natAbs
  .rw[vO]at d e;have:=rh d g;have:=rh e (show(a.y-b.y).natAbs<=(c.y-b.y).natAbs by omega);omega
  have:=w8 (xM g) (xM f);grind
 by_cases f:(a.y-b.y).natAbs<=(c.y-b.y).natAbs
 .rw[vO]at d e;have:=rh d (show(a.x-b.x).natAbs<=(c.x-b.x).natAbs by omega);have:=rh e f;omega
 have:=w8 (xM j) (xM f);grind
theorem G0 {u v:Int}(h:min u 0<=v/\v<=max u 0):0<=u*v:=by
 rcases vA 0 u with a|a
 .exact vI a (by omega)
 exact xr a (by omega)
theorem GH {u v:Int}(h:min u 0<=v/\v<=max u 0)(b:v≠0):0<u*v:=by
 rcases Int.lt_trichotomy v 0 with a|a|a
 .exact Int.mul_pos_of_neg_of_neg (by omega) a
 omega
 .exact Int.mul_pos (by omega) a
theorem Xy {a b:Spot}(h:a≠b):a.x-b.x≠0\/a.y-b.y≠0:=by
 by_cases c:a.x=b.x
 .by_cases d:a.y=b.y
  .exact absurd (by cases a;simp_all) h
  omega
 omega
theorem VZ {a b c:Spot}(d:c≠b)(h:onS a b c=true):gN a b c=true:=by
 rw[qP]at h;rw[AI];have f:min (a.x-b.x) 0<=c.x-b.x/\c.x-b.x<=max (a.x-b.x) 0:=by omega
 have g:min (a.y-b.y) 0<=c.y-b.y/\c.y-b.y<=max (a.y-b.y) 0:=by omega
 have i:=G0 f;have j:=G0 g;rcases Xy d with e|e
 .have:=GH f e;omega
 have:=GH g e;omega
theorem QU (a b c:Spot):gN a b c=gN c b a:=by
 rw[zN,AI,AI];grind[ay]
theorem on_sym (a b c:Spot):onS a b c=onS b a c:=by
 rw[zN,qP,qP];grind[ay]
theorem on_end (a b:Spot):onS a b a=true:=by
 grind[qP,ay]
theorem tG {p:Rp}{i:Nat}(hi:i<p.length):pt p i∈p.take i↔∃j,j<i/\pt p j=pt p i:=by
 rw[vQ];constructor
 .rintro⟨j,a,e⟩;exact⟨j,by omega,by grind[bc]⟩
 grind[bc]
theorem mod1 {n i:Nat}(hi:i<n):(i+1)%n=if i+1=n then 0 else i+1:=by
 split
 simp_all
 .exact zU (by omega)
theorem mod2 {n i:Nat}(h3:3<=n)(hi:i<n):(i+2)%n=if i+2<n then i+2 else i+2-n:=by
 split
 grind[Nat.mod_eq_of_lt]
 .rw[Nat.mod_eq_sub_mod (by omega),zU (by omega)]
theorem Wb {p:Rp}(h3:3<=p.length):je p↔Ap p:=by
 constructor
 .rintro⟨m,d⟩ i hi
  have b:∀{j k},j<p.length->k<p.length->j≠k->pt p j≠pt p k:=by
   grind[tG]
  have f:=mod1 hi;have n:=mod2 h3 hi;have l1:(i+1)%p.length<p.length:=zI _ (by omega);have l2:(i+2)%p.length<p.length:=zI _ (by omega);have g:pt p i≠pt p ((i+1)%p.length):=b hi l1 (by grind);obtain⟨h,c⟩:=d i hi;grind[VZ,on_sym,QU]
 intro hr;refine⟨fun i hi c=>?_,fun i hi=>⟨?_,(hr i hi).2⟩⟩
 .obtain⟨j,o,e⟩:=(tG hi).1 c;have a:j<p.length:=by omega
  have f:=mod1 a;by_cases h1:j+1=i
  .have:=(hr j a).1.1;grind
  by_cases l:(i+1)%p.length=j
  .have:=(hr i hi).1.1;grind
  have:=(hr j a).2 i hi (by omega) l;grind[on_end,ld]
 cases h:gN (pt p i) (pt p ((i+1)%p.length)) (pt p ((i+2)%p.length))
 .rfl
 have:=(hr i hi).1;grind[XJ]
attribute [local irreducible] IntKind.wrap wpM
theorem XB {l:List Edge}{k:Nat}(h:k<l.length):bJ (l.take (k+1))=bJ (l.take k)++(eg l k).line.dropLast:=by
 rw[EA h,ZB h]
theorem BL (p:Rp):PU 48 [ac p]=some (.int .i64 (sgn (eL p))):=by
 refine PS rfl ?_
 repeat' (first
  |refine jP rfl ?_
  |refine fI rfl ?_
  |refine aB rfl rfl (H4 p) ?_
  |refine aB rfl rfl (js _ _) ?_)
 rfl
def dl (a b:Int):Int:=if a<0 then-((2*(-a)+b)/(2*b))else(2*a+b)/(2*b)
theorem Ni (a b:Int)(h0:0<=a)(j:a<=1099511627776)(k:0<b)(c:b<=1099511627776):PU 85 [.int .i64 a,.int .i64 b]=some (.int .i64 (dl a b)):=by
 refine PS rfl (gg rfl ?_);have d:=ww (x:=2*a);have e:=ww (x:=2*a+b);have f:=ww (x:=2*b);refine an rfl (fun h=>?_) (fun h=>?_)
 .rw[ad]at h;omega
 refine gg rfl (EF rfl rfl (by omega) ?_);refine jF rfl ?_;have g:(2*a+b).tdiv (2*b)=(2*a+b)/(2*b):=wY (by omega);have l:(2*a+b)/(2*b)<=2*a+b:=wD _ (by omega);have i:0<=(2*a+b)/(2*b):=xm (by omega) (by omega);rw[d,e,f,g,wrap64 (by omega) (by omega),dl,eE]
theorem LL (a b:Int)(d: -1099511627776<=a)(i:a<=1099511627776)(e:0<b)(c:b<=1099511627776):PU 85 [.int .i64 a,.int .i64 b]=some (.int .i64 (dl a b)):=by
 by_cases h0:0<=a
 grind[Ni];refine PS rfl (jC rfl (fun h=>?_) (fun h=>?_))
 .refine gg rfl ?_;have f:IntKind.i64.wrap (0-a)= -a:=by grind[wrap64]
  rw[f];refine aB rfl rfl (Ni (-a) b (by omega) (by omega) e c) ?_;refine jF rfl ?_;have j:(2*(-a)+b)/(2*b)<=2*(-a)+b:=wD _ (by omega);have g:0<=(2*(-a)+b)/(2*b):=xm (by omega) (by omega);rw[dl,eE,dl,rA,wrap64 (by omega) (by omega)];simp
 rw[af]at h;omega
def wd (a:List Int)(i:Nat):Int:=a.getD i 0
theorem Dz {a:List Int}{i:Nat}(h:i<a.length):(a.map aa)[i]?=some (aa (wd a i)):=by grind[wd]
def ct (l:List Edge)(a:List Int):Nat->List Int
 |0=>[]
 |k+1=>ct l a k++List.replicate ((eg l k).line.length-1) (wd a k)
theorem D0 (l:List Edge)(a:List Int):∀k,k<=l.length->(ct l a k).length=(bJ (l.take k)).length:=by
 intro k
 induction k with
 |zero=>simp[ct,bJ]
 |succ k b=>
  grind[ct,XB]
theorem HI (l:List Edge)(a:List Int)(p:l.length<=a.length)(h1:∀e∈l,1<=e.line.length/\e.line.length<=100000)(q:l.length<=100000)(r:(bJ l).length<=100000):PU 44 [edges l,ints a]=some (ints (ct l a l.length)):=by
 have b:∀k,k<=l.length->(ct l a k).length<=100000:=by
  grind[D0,FC]
 refine PS rfl (gg rfl (aw (S:=fun k:Nat=>([ints a,.ref 1 0 (ct l a k).length,edges l,aa l.length,aa k],none::some (.row ((ct l a k).map aa) 1)::nn3,zz5)) (C:=fun k=>k<=l.length) (m:=fun k=>l.length-k) 0 (by omega) (by omega) ?_ ?_))
 .exact ah rfl ⟨rfl,tr⟩ (by simp[edges,ints,aa,ct])
 intro k s N i;refine jC rfl (fun c=>?_) (fun c=>?_)
 .rw[ad]at c;have d:k<l.length:=by omega
  have t:=wS (n:=k);have o:1<=(eg l k).line.length/\(eg l k).line.length<=100000:=by grind[ZB]
  have u:IntKind.i64.wrap (((eg l k).line.length:Int)-1)=(((eg l k).line.length-1:Nat):Int):=by grind[wrap64]
  have f:=b (k+1) (by omega);rw[ct,zL,vL]at f;refine jX k rfl rfl (mc d) rfl (gg rfl ?_)
  refine aw (S:=fun j:Nat=>([ints a,.ref 1 0 ((ct l a k).length+j),aa k,edges l,aa l.length,aa k,aa ((eg l k).line.length-1:Nat),aa j],
   none::some (.row ((ct l a k++List.replicate j (wd a k)).map aa) 1)::nn6,zz8))
   (C:=fun j=>j<=(eg l k).line.length-1) (m:=fun j=>(eg l k).line.length-j) 0 (by omega) (by omega) ?_ ?_
  .exact ah rfl ⟨ae iz _,tr⟩ (by grind[edges,ints,aa])
  intro j v w g;refine jC rfl (fun h=>?_) (fun h=>?_)
  .rw[ad]at h;have x:=wS (n:=j);refine jX k rfl rfl (Dz (by omega)) rfl ?_;refine gg rfl (bI rfl rfl rfl rfl rfl rfl (by simp) (zB _) (by grind[aK]) ?_);refine gE rfl (g (j+1) (by omega) (by omega) (ah rfl ⟨?_,tr⟩ ?_))
   .rw[zY,ae iz];rfl
   grind[edges,ints,aa,List.replicate_succ']
  rw[af]at h;refine gE rfl (gE rfl (i (k+1) (by omega) (by omega) (ah rfl ⟨ae iz _,tr⟩ ?_)));grind[edges,ints,aa,ct]
 rw[af]at c;obtain rfl:k=l.length:=by omega
 refine gE rfl (gg rfl (cS rfl rfl rfl ⟨bK (by simp) (bF Db _),tr⟩ ?_));simp[bZ,ints]
end Go.F
namespace Go.F
open Ieee
theorem A0 (a b:Nat):a<<<b=a*2^b:=Nat.shiftLeft_eq a b
theorem dbl:FloatKind.f64.format=Ieee.double:=rfl
theorem DY {n k:Nat}(h:n<2^(k+1)):n.log2<=k:=by
 by_cases h0:n=0
 simp_all
 .have:=(xZ h0).2 h;omega
theorem cut_le {b:Bool}{n a k:Nat}(h:n<2^k*2^a):Toward.even.cut b n a<=2^k:=by
 unfold Toward.cut
 have c:∀g:Nat,0<g->n<2^k*g->n/g+1<=2^k:=by
  intro g c d;have:=(zm c).2 d;omega
 by_cases e:a<=n.log2+2
 grind[Nat.one_shiftLeft,Bool.toNat_le]
 .rw[Nat.min_eq_right (by omega),Nat.one_shiftLeft];have d:n<2^(n.log2+2):=zc w9 (zu (by omega) (by omega));grind[Nat.div_eq_of_lt,Bool.toNat_le]
theorem It {mag:Nat}{place e:Int}(h:place+mag.log2<=e)(l: -1000<=e):(double.nearest false mag place:Int)<=(e+1024) *4503599627370496:=by
 unfold Format.nearest;by_cases h0:mag=0
 .grind[Format.word]
 simp only[Format.word];have d:double.binade=4503599627370496:=rfl;have f:double.leastPlace= -1074:=rfl;have g:(double.fractionBits:Int)=52:=rfl;rw[d,f,g];generalize b:max (place+(mag.log2:Int)-52) (-1074)=a;have i:mag<2^(mag.log2+1):=w9
 have m:Toward.even.cut false (mag<<<(place-a).toNat) (a-place).toNat<=2^53:=by
  refine cut_le ?_;rw[A0];rcases vA a place with j|j
  .have c:(a-place).toNat=0:=by omega
   rw[c,Nat.pow_zero,wn];have k:(place-a).toNat+(mag.log2+1)<=53:=by omega
   calc mag*2^(place-a).toNat<2^(mag.log2+1) *2^(place-a).toNat:=xW i (yk _)
    _=2^((place-a).toNat+(mag.log2+1)):=by grind
    _<=2^53:=zu (by omega) k
  have c:(place-a).toNat=0:=by omega
  rw[c,Nat.pow_zero,wn,<-yn];grind[Nat.lt_of_lt_of_le,Nat.pow_le_pow_right]
 grind
theorem Mx {w:Nat}{E:Nat}(b:1<=E)(hE:E<=2000)(h:w<=E*4503599627370496):∃m i,double.read w=.number false m i/\m<9007199254740992/\i<= -1075+E:=by
 unfold Format.read;have c:double.binade=4503599627370496:=rfl;have f:double.leastPlace= -1074:=rfl;have d:double.signWeight=9223372036854775808:=rfl;have hi:double.infRung=9218868437227405312:=rfl;simp[c,d];have h1:w/9223372036854775808=0:=by omega
 have e:w%9223372036854775808=w:=by omega
 rw[h1,e];by_cases a:w<4503599627370496
 .rw[ve a];exact⟨w,-1074,rfl,by omega,by omega⟩
 rw[vd a,rA];refine⟨_,_,rfl,by omega,?_⟩;omega
theorem Pq (n:Nat):∀(a b:Nat),Datum.rootFrom n a b<b+2^a:=by
 intro a
 induction a with
 |zero=>simp[Datum.rootFrom]
 |succ k c=>
  grind[Datum.rootFrom,Nat.one_shiftLeft]
theorem YT {m:Nat}{i:Int}(d:m<9007199254740992)(hi:i<= -25):∃r:Int,Datum.toInt .zero (.number false m i)=some r/\0<=r/\r<=268435456:=by
 unfold Datum.toInt Datum.integral;simp only[signed];have a:i.toNat=0:=by omega
 rw[a,A0,A0];simp
 have:Toward.zero.cut false m (-i).toNat<=268435456:=by
  unfold Toward.cut;simp[Nat.one_shiftLeft];by_cases b:(-i).toNat<=m.log2+2
  .rw[wI b];have c:2^25<=2^(-i).toNat:=zu (by omega) (by omega);have h3:m/2^(-i).toNat<=m/2^25:=Nat.div_le_div_left c (by decide);omega
  have e:m<2^(m.log2+2):=zc w9 (zu (by omega) (by omega));grind[Nat.div_eq_of_lt]
 omega
theorem Yz (n:Nat)(s:n<2^51):∃(y:Nat) (r:Int),FloatKind.f64.format.sqrt (FloatKind.f64.nearest n)=some y/\(FloatKind.f64.decode y).toInt .zero=some r/\0<=r/\r<=268435456:=by
 have t:FloatKind.f64.nearest n=double.nearest false n 0:=by
  rfl
 have h1:=It (mag:=n) (place:=0) (e:=50) (by have:=DY (k:=50) s;omega) (by omega);obtain⟨m,i,hr,z,hi⟩:=Mx (w:=double.nearest false n 0) (E:=1074) (by omega) (by omega) (by omega)
 have key:∀(mag:Nat) (place:Int),place+mag.log2<=26->∃r:Int,(double.read (double.nearest false mag place)).toInt .zero=some r/\0<=r/\r<=268435456:=by
  intro mag place h;have A:=It (mag:=mag) (place:=place) (e:=26) h (by omega);obtain⟨m',B,u,v,x⟩:=Mx (w:=double.nearest false mag place) (E:=1050) (by omega) (by omega) (by omega);grind[YT]
 rw[t,dbl];unfold Format.sqrt;rw[hr];unfold Datum.root;by_cases h0:m=0
 .subst h0;obtain⟨r,g,j,l⟩:=key 0 i (by simp;omega);exact⟨_,r,rfl,g,j,l⟩
 simp only[h0];generalize 2*(double.fractionBits+2)-m.log2+((i-(2*(double.fractionBits+2)-m.log2:Nat))%2).toNat=a
 have o:m<<<a<2^(52+a+1):=by
  rw[A0,show 52+a+1=53+a by omega,yn];simp_all[yk]
 have p:=DY o;have q:=Pq (m<<<a) ((m<<<a).log2/2+1) 0;generalize C:(m<<<a).log2/2+1=T at q⊢;generalize Datum.rootFrom (m<<<a) T 0=b at q⊢;have c:=Bool.toNat_le (b*b !=m<<<a);generalize (b*b !=m<<<a).toNat=d at c⊢;have f:2*b+d<2^(T+1):=by omega
 have D:=DY f;obtain⟨r,g,j,l⟩:=key (2*b+d) ((i-a)/2-1) (by omega);exact⟨_,r,rfl,g,j,l⟩
end Go.F
namespace Go.F
def val:List Nat->Nat
 |[]=>0
 |x::l=>x+4294967296*val l
def n7:Nat->Nat->List Nat
 |0,_=>[]
 |k+1,n=>if n=0 then []else n%4294967296::n7 k (n/4294967296)
def ax (n:Nat):List Nat:=n7 n n
def dg (l:List Nat)(i:Nat):Nat:=l.getD i 0
class LOk (l:List Nat):Prop where
 lt:∀x∈l,x<4294967296
theorem U1:∀(k j n:Nat),n<=k->n<=j->n7 k n=n7 j n:=by
 intro k
 induction k with
 |zero=>
  intro j n h1 a;obtain rfl:n=0:=by omega
  cases j<;>simp[n7]
 |succ k b=>
  intro j n h1 a
  cases j with
  |zero=>
   grind
  |succ j=>
   grind[n7]
theorem E7:ax 0=[]:=rfl
theorem m6 {n:Nat}(h:n≠0):ax n=n%4294967296::ax (n/4294967296):=by
 obtain⟨k,rfl⟩:∃k,n=k+1:=⟨n-1,by omega⟩;unfold ax;rw[n7,vd h,U1 k ((k+1)/4294967296) _ (by omega) (zD _)]
theorem Ef {P:Nat->Prop}(h0:P 0)(h1:∀n,n≠0->P (n/4294967296)->P n)(n:Nat):P n:=by
 induction n using Nat.strongRecOn with
 |_ n a=>
  grind
theorem bX (n:Nat):val (ax n)=n:=by
 induction n using Ef with
 |h0=>rfl
 |h1 n a b=>grind[m6,val]
instance cE (n:Nat):LOk (ax n):=by
 refine⟨?_⟩
 induction n using Ef with
 |h0=>trivial
 |h1 n hn ih=>
  grind[m6]
theorem bT {n k:Nat}:(ax n).length<=k↔n<4294967296^k:=by
 induction k generalizing n with
 |zero=>
  grind[E7,m6]
 |succ k a=>
  by_cases h:n=0
  grind;simp_all[m6,ye,zm]
theorem u9 {n:Nat}:0<(ax n).length↔n≠0:=by
 grind[E7,m6]
theorem X3 {n:Nat}:ax n=[]↔n=0:=by
 grind[E7,m6]
theorem val_append (a b:List Nat):val (a++b)=val a+4294967296^a.length*val b:=by
 induction a with
 |nil=>simp[val]
 |cons x a c=>rw[xN,val,c,val,yM,ye,yP,<-yi,zx 4294967296 (_^_)];omega
theorem D9 (a:List Nat)(x:Nat):val (a++[x])=val a+4294967296^a.length*x:=by
 simp[val_append,val]
theorem QO (k:Nat):val (List.replicate k 0)=0:=by
 induction k with
 |zero=>rfl
 |succ k a=>grind[val]
theorem LOk.cons {x:Nat}{l:List Nat}(h:LOk (x::l)):x<4294967296/\LOk l:=
 ⟨h.lt x (by simp),⟨fun y a=>h.lt y (by grind)⟩⟩
theorem LOk.append {a b:List Nat}(h:LOk a)(g:LOk b):LOk (a++b):=
 ⟨fun x c=>by rcases za.1 c with h1|h1;exact h.lt x h1;exact g.lt x h1⟩
theorem LOk.snoc {a:List Nat}{x:Nat}(h:LOk a)(g:x<4294967296):LOk (a++[x]):=
 h.append ⟨fun y b=>by grind⟩
theorem LOk.take {a:List Nat}(h:LOk a)(k:Nat):LOk (a.take k):=⟨fun x b=>h.lt x (zt b)⟩
theorem LOk.drop {a:List Nat}(h:LOk a)(k:Nat):LOk (a.drop k):=⟨fun x b=>h.lt x (yJ b)⟩
theorem LOk.set {a:List Nat}(h:LOk a)(k:Nat){v:Nat}(c:v<4294967296):LOk (a.set k v):=
 ⟨fun x b=>by rcases yp b with h1|h1;exact h.lt x h1;omega⟩
theorem oq (k:Nat):LOk (List.replicate k 0):=⟨fun x a=>by grind⟩
instance nil_ok:LOk []:=⟨by simp⟩
theorem gT {l:List Nat}(h:LOk l):val l<4294967296^l.length:=by
 induction l with
 |nil=>trivial
 |cons x l a=>
  obtain⟨h1,b⟩:=h.cons;grind[val]
theorem cF {l:List Nat}(h:LOk l)(i:Nat):dg l i<4294967296:=by
 unfold dg;rw[yT]
 cases a:l[i]? with
 |none=>simp
 |some x=>exact h.lt x (zh a)
theorem qb {l:List Nat}{i:Nat}(h:l.length<=i):dg l i=0:=by
 grind[dg]
theorem ET {l:List Nat}{i:Nat}(h:i<l.length):dg l i=l[i]:=by grind[dg]
theorem Rk {l:List Nat}{k:Nat}(h:k<l.length):l.take (k+1)=l.take k++[dg l k]:=by
 rw[yd h,ET h]
theorem dc (l:List Nat)(k:Nat):val (l.take (k+1))=val (l.take k)+4294967296^k*dg l k:=by
 grind[Rk,D9,qb]
theorem lw (l:List Nat)(k:Nat):val (l.drop k)=dg l k+4294967296*val (l.drop (k+1)):=by
 grind[List.drop_eq_getElem_cons,val,ET,List.drop_of_length_le,qb]
theorem lQ (l:List Nat)(k:Nat):val l=val (l.take k)+4294967296^k*val (l.drop k):=by
 grind[val_append,List.take_append_drop]
theorem SB:∀{l:List Nat} (_:LOk l) (i:Nat),dg l i=val l/4294967296^i%4294967296:=by
 intro l
 induction l with
 |nil=>simp[dg,val]
 |cons x l a=>
  intro h i;obtain⟨h1,b⟩:=h.cons
  cases i with
  |zero=>grind[dg,val]
  |succ i=>
   have:=a b i;have e:dg (x::l) (i+1)=dg l i:=by rfl
   rw[e,this,val,ye,zx (4294967296^i),<-x5];grind
theorem Wm {l:List Nat}(b:l≠[])(h:dg l (l.length-1)≠0):val l≠0:=by
 have a:0<l.length:=wQ.2 b;have:=lQ l (l.length-1);rw[lw,xt a,xA]at this;simp[val]at this;have c:0<4294967296^(l.length-1) *dg l (l.length-1):=Nat.mul_pos (y7 (by decide)) (by omega);omega
theorem Sy {l:List Nat}(h:LOk l)(a:l=[]\/dg l (l.length-1)≠0):ax (val l)=l:=by
 induction l with
 |nil=>rfl
 |cons x l b=>
  obtain⟨h1,c⟩:=h.cons;grind[Wm,m6,val,dg]
theorem QQ {n:Nat}(h:n≠0):dg (ax n) ((ax n).length-1)≠0:=by
 induction n using Ef with
 |h0=>omega
 |h1 n a b=>
  grind[m6,dg,u9]
theorem P6 {l:List Nat}{n:Nat}(h:LOk l)(c:n<=l.length)(h0:∀i,n<=i->dg l i=0)(h1:n=0\/dg l (n-1)≠0):l.take n=ax (val l):=by
 have a:∀k j,n<=j->j+k=l.length->val (l.drop j)=0:=by
  intro k
  induction k with
  |zero=>intro j _ d;rw[yY (by omega)];rfl
  |succ k e=>grind[lw]
 have b:val l=val (l.take n):=by
  rw[lQ l n,a (l.length-n) n (zD _) (by omega)];simp
 rw[b,Sy (h.take n)];grind[dg]
theorem GM {l:List Nat}{i v:Nat}(h:i<l.length):val (l.set i v)+4294967296^i*dg l i=val l+4294967296^i*v:=by
 induction l generalizing i with
 |nil=>grind
 |cons x l a=>
  cases i with
  |zero=>grind[val,dg]
  |succ i=>
   have e:dg (x::l) (i+1)=dg l i:=by rfl
   rw[List.set_cons_succ,val,val,e,ye];grind
theorem fC {l:List Nat}{i j v:Nat}:dg (l.set i v) j=if i=j/\j<l.length then v else dg l j:=by
 grind[dg]
theorem P9 {a b:List Nat}{i:Nat}(h:i<a.length):dg (a++b) i=dg a i:=by
 grind[dg]
theorem Ys {a b:List Nat}{i:Nat}(h:a.length<=i):dg (a++b) i=dg b (i-a.length):=by
 grind[dg]
theorem oW (k i:Nat):dg (List.replicate k 0) i=0:=by
 grind[dg]
theorem qZ (p t:Nat):p*(t%4294967296)+p*4294967296*(t/4294967296)=p*t:=by
 grind[Nat.mod_add_div]
def u32 (n:Nat):D:=.int .u32 n
def nat (l:List Nat):D:=.lst (l.map u32)
theorem eX {l:List Nat}{i:Nat}(h:i<l.length):(l.map u32)[i]?=some (u32 (dg l i)):=by grind[dg]
theorem bG (n:Nat):plain 4 (u32 n)=true:=rfl
theorem MH (n:Nat):dat 4 (u32 n)=true:=rfl
theorem dP (n:Nat):IntKind.u32.wrap (n:Int)=((n%4294967296:Nat):Int):=by
 rfl
theorem Af (n:Int):IntKind.u32.wrap n=n%4294967296:=by
 rfl
theorem eI (n:Int):IntKind.u64.wrap n=n%18446744073709551616:=by
 rfl
theorem bq {n:Nat}(h:n<18446744073709551616):IntKind.u64.wrap (n:Int)=(n:Int):=by
 grind[eI]
theorem kn_gt {U V P ut vt q:Nat}(hU:U<(ut+1) *P)(b:vt*P<=V)(a:0<V)(h:ut<q*vt):U/V<q:=by
 rw[zm a]
 calc U<(ut+1) *P:=hU
  _<=q*vt*P:=zF _ h
  _=q*(vt*P):=yi _ _ _
  _<=q*V:=zf _ b
theorem kn_le {U V P ut vt q B:Nat}(hU:ut*P<=U)(b:V<(vt+1) *P)(a:B*P<=V)(c:0<V)(d:q<B)(h:q*vt<=ut):q<=U/V+1:=by
 by_cases h0:q=0
 grind
 have h1:q*V<=U+V:=by
  calc q*V<=q*((vt+1) *P):=zf _ (xd b)
   _=q*vt*P+q*P:=by grind
   _<=ut*P+B*P:=Nat.add_le_add (zF _ h) (zF _ (xd d))
   _<=U+V:=Nat.add_le_add hU a
 have e:(q-1) *V<=U:=by
  obtain⟨k,rfl⟩:∃k,q=k+1:=⟨q-1,by omega⟩;grind
 have:=(yq c).2 e;omega
attribute [local irreducible] IntKind.wrap wpM
theorem S4 {r:List Nat}{k:Nat}(v:Nat):(r.map u32).set k (.int .u32 v)=(r.set k v).map u32:=by
 rw[List.map_set];rfl
section
variable {T:Tab}{sh:Shr}{nx0:Nat}{s:List Fr}{t:ai}{h:ab}{z:Frz}{nx:Nat}{q:Ex->ai->ab->Frz->Nat->Prop}
variable {base i:Nat}{res:List Nat}{g:Gd}{rest:List KOper}
theorem ip {b:Bool}{a v:X}{c:Option Nat}{id e:Nat}{w':Int}(r:List Nat)(k w:Nat)(j:a.ev t=.ptr id e 0)(f:v.ev t=.int .u32 w')(d:e=k)(l:w'=w)(hr:g.h base h id=some (.row (r.map u32) 1))(m:g.z base z id<=k)(n:k<r.length)
 (o:wpM T sh nx0 (.ops base res rest::s) .normal (put t c (.tup [])) (upd h id (some (.row ((r.set k w).map u32) 1))) z nx q):
 wpM T sh nx0 (.ops base res (⟨i,c,none,g,.store b 1 a v⟩::rest)::s) .normal t h z nx q:=by
 subst d;subst l;refine dq (e':=.int .u32 w) j (by rw[f];rfl) hr m (eX n) (by rw[f];rfl) ?_;rw[S4];exact o
theorem nC {b:Bool}{a:X}{c:Nat}{id e:Nat}(r:List Nat)(k:Nat)(f:a.ev t=.ptr id e 0)(d:e=k)(hr:g.h base h id=some (.row (r.map u32) 1))(j:k<r.length)
 (l:wpM T sh nx0 (.ops base res rest::s) .normal (upd t c (.int .u32 (dg r k))) h z nx q):
 wpM T sh nx0 (.ops base res (⟨i,some c,none,g,.load b false 1 a⟩::rest)::s) .normal t h z nx q:=by
 subst d;exact aQ f hr (eX j) rfl l
end
theorem ff (l:List Nat) [b:LOk l](g:l.length<=4000000000):PU 204 [nat l]=some (nat (ax (val l))):=by
 refine PS rfl (gg rfl (aw (S:=fun n:Nat=>([nat l,aa n],[none,none],[0,0])) (C:=fun n=>n<=l.length/\∀i,n<=i->dg l i=0) (m:=fun n=>n) l.length ⟨zD _,fun i hi=>qb hi⟩ (by omega) ?_ ?_))
 .exact ah rfl tr (by simp[nat,aa])
 intro n ⟨c,h0⟩ N d
 have fin:(n=0\/dg l (n-1)≠0)->D.lst ((l.map u32).take n)=nat (ax (val l)):=fun h=>by
  rw[nat,<-P6 b c h0 h,yD]
 refine gg rfl (au rfl (fun h1=>?_) (fun h1=>?_))
 .rw[ad]at h1;have e:IntKind.i64.wrap ((n:Int)-1)=((n-1:Nat):Int):=by grind[wrap64]
  refine jX (n-1) rfl e (eX (by omega)) rfl ?_;refine jC rfl (fun a=>?_) (fun a=>?_)
  .rw[co]at a;refine gE rfl (d (n-1) ⟨by omega,fun i hi=>?_⟩ (by omega) (ah rfl tr (by grind[nat,aa])));grind
  rw[dG]at a;refine gE rfl (gg rfl (nK n rfl (dS (f:=u32) (n:=1) (fun _=>rfl) _) ⟨_,_,rfl,rfl⟩ (by grind) ?_));refine jF rfl (fin (.inr ?_));omega
 rw[af]at h1;refine gg rfl (aj rfl (gE rfl (gg rfl (nK n rfl (dS (f:=u32) (n:=1) (fun _=>rfl) _) ⟨_,_,rfl,rfl⟩ (by omega) ?_))));refine jF rfl (fin (.inl (by omega)))
theorem nw {l:List Nat}{n:Nat}(a:n=l.length):0+n<=(l.map u32).length/\(((l.map u32).drop 0).take n).all (dat 4)=true:=by
 grind[MH]
theorem oT {l:List Nat}{n:Nat}(a:n=l.length):D.lst ((l.map u32).take n)=nat l:=by
 grind[nat,List.take_of_length_le]
theorem Bi (n:Nat)(c:n<18446744073709551616):PU 202 [.int .u64 n]=some (nat (ax n)):=by
 have:LOk [n%4294967296,n/4294967296]:=⟨by grind⟩;have a:=ff [n%4294967296,n/4294967296] (by simp);have b:val [n%4294967296,n/4294967296]=n:=by grind[val]
 rw[b]at a;refine PS rfl (gg rfl (bH n 32 rfl rfl rfl rfl (by decide) ?_));refine gg rfl ?_;rw[dP,dP,show n/2^32%4294967296=n/4294967296 by omega];exact lr rfl rfl ⟨nw (l:=[n%4294967296,n/4294967296]) rfl,tr⟩ a fun z=>(jZ rfl)
theorem Al (l:List Nat) [b:LOk l](c:l.length<=4000000000):PU 229 [nat l]=some (nat (ax (val l))):=by
 have a:(ax (val l)).length<=l.length:=bT.2 (gT b);refine PS rfl (jA rfl (ff l c) (gg rfl (eu (ax (val l)).length rfl rfl (by simp) (by grind[aK]) ?_)));refine gg rfl (MO rfl rfl rfl rfl (dS (f:=u32) (n:=1) (fun _=>rfl) _) (by simp) (zB _) ?_);refine gg rfl ?_
 have e:List.take 0 (List.replicate (ax (val l)).length (D.int IntKind.u32 0))++((ax (val l)).map u32).take (min ((ax (val l)).map u32).length (ax (val l)).length)++(List.replicate (ax (val l)).length (D.int IntKind.u32 0)).drop (0+min ((ax (val l)).map u32).length (ax (val l)).length)=(ax (val l)).map u32:=by
  grind
 rw[e];exact cS rfl rfl rfl ⟨nw rfl,tr⟩ (oT rfl)
theorem WZ (n:Nat):PU 261 [.int .u32 n]=some (.bool false):=by
 refine PS rfl ?_
 repeat' (first
  |refine jP rfl ?_
  |refine fI rfl ?_)
 simp[nqb]
theorem Wh (a b:Nat):PU 228 [.int .u32 a,.int .u32 b]=some (.int .i64 (br a b)):=by
 refine PS rfl ?_
 repeat' (first
  |refine jP rfl ?_
  |refine an rfl ?_ ?_<;>intro _
  |refine fI rfl ?_
  |refine aB rfl rfl (WZ _) ?_)
 all_goals ((try simp only[cw,ca,cC,eJ,zT,zQ,zj,zi,yO,yZ]at*);first|(simp_all[br];done) |grind[br] |(rw[D.bool.injEq,zN];simp[br];omega) |(rw[D.bool.injEq,zN];simp_all[br];omega) |(simp[br];split<;>(try split)<;>omega))
theorem Mu {a b:List Nat}(d:LOk a){i:Nat}(h:a.drop (i+1)=b.drop (i+1))(hi:dg a i<dg b i):val a<val b:=by
 have c:=lQ a i;have e:=lQ b i;rw[lw]at c e;rw[h]at c;have h1:=gT (d.take i);have h3:4294967296^(a.take i).length<=4294967296^i:=zu (by decide) (by grind);generalize 4294967296^i=P at*;generalize 4294967296*val (List.drop (i+1) b)=R at*
 have f:P*(dg a i+R)+P<=P*(dg b i+R):=by
  rw[<-Nat.mul_succ];exact zf _ (by omega)
 omega
theorem CJ (a b:List Nat) [j:LOk a] [s:LOk b](k:a.length<=1000000000)(l:b.length<=1000000000):PU 203 [nat a,nat b]=some (.int .i64 (br (val a) (val b))):=by
 have t:val (ax (val a))=val a:=bX _;have u:val (ax (val b))=val b:=bX _;have g:(ax (val a)).length<=a.length:=bT.2 (gT j);refine PS rfl (jA rfl (ff a (by omega)) ?_);refine jA rfl (ff b (by omega)) ?_;refine jA rfl (js _ _) (gg rfl ?_);rw[zA,zA];refine an rfl (fun h1=>?_) (fun h1=>?_)
 .rw[aO]at h1;refine jF rfl ?_;congr 1;unfold br at h1⊢;rcases wt (ax (val a)).length (ax (val b)).length with h|h|h
  .have c:¬val b<4294967296^(ax (val a)).length:=fun h3=>by have:=bT.2 h3;omega
   have h3:val a<4294967296^(ax (val a)).length:=bT.1 (zD _);omega
  omega
  .have c:¬val a<4294967296^(ax (val b)).length:=fun h3=>by have:=bT.2 h3;omega
   have h3:val b<4294967296^(ax (val b)).length:=bT.1 (zD _);omega
 rw[aE]at h1
 have i:(ax (val a)).length=(ax (val b)).length:=by
  grind[br]
 generalize o:ax (val a)=A at*;generalize p:ax (val b)=B at*;have e:LOk A:=o▸cE _;have f:LOk B:=p▸cE _;refine gg rfl (aw (S:=fun n:Nat=>([nat A,nat B,aa ((n:Int)-1)],none::nn2,zz3)) (C:=fun n=>n<=A.length/\A.drop n=B.drop n) (m:=fun n=>n) A.length ⟨zD _,by grind⟩ (by omega) ?_ ?_)
 .exact ah rfl tr (by grind[nat,aa,wrap64])
 intro n ⟨v,w⟩ N q;refine jC rfl (fun c=>?_) (fun c=>?_)
 .rw[bk]at c;refine jX (n-1) rfl (by omega) (eX (by omega)) rfl ?_;refine jX (n-1) rfl (by omega) (eX (by omega)) rfl ?_;refine jA rfl (Wh _ _) (jC rfl (fun h3=>?_) (fun h3=>?_))
  .rw[aO]at h3;refine gE rfl (jF rfl ?_);congr 1;unfold br at h3⊢;have d:A.drop (n-1+1)=B.drop (n-1+1):=by grind
   rcases wt (dg A (n-1)) (dg B (n-1))with h|h|h
   .have:=Mu e d h;omega
   omega
   .have:=Mu f d.symm h;omega
  rw[aE]at h3
  have r:dg A (n-1)=dg B (n-1):=by
   grind[br]
  refine gE rfl (q (n-1) ⟨by omega,?_⟩ (by omega) (ah rfl tr ?_));grind[List.drop_eq_getElem_cons,ET];grind[wrap64,nat,aa]
 rw[aW]at c;obtain rfl:n=0:=by omega
 refine gE rfl (jF rfl ?_);grind[br]
theorem oB {r:List Nat}{k v:Nat}(h:k<r.length):val ((r.set k v).take (k+1))=val (r.take k)+4294967296^k*v:=by
 simp_all[dc,fC,yx]
theorem nn {l:List Nat}(h:LOk l):(ax (val l)).length<=l.length:=bT.2 (gT h)
theorem vg (a b:List Nat) [E:LOk a] [F:LOk b](G:a.length<=1000000000)(H:b.length<=1000000000):PU 210 [nat a,nat b]=some (nat (ax (val a+val b))):=by
 have O:val (ax (val a))=val a:=bX _;have R:val (ax (val b))=val b:=bX _;have q:=nn E;have s:=nn F;refine PS rfl (jA rfl (ff a (by omega)) ?_);refine jA rfl (ff b (by omega)) ?_;refine gg rfl ?_;rw[zA,zA];have f:LOk (ax (val a)):=cE _;have g:LOk (ax (val b)):=cE _;generalize ax (val a)=P at*;generalize ax (val b)=Q at*;refine an rfl (fun h1=>?_) (fun h1=>?_);rw[ad]at h1;have u:=f;clear f;have f:=g;clear g;have g:=u;refine gg rfl ?_;generalize Q=A at*;generalize P=B at*;rotate_left;rw[af]at h1;refine gg rfl ?_;generalize P=A at*;generalize Q=B at*
 all_goals
  refine eu 0 rfl rfl rfl (by rw[zA,wrap64 (by omega) (by omega)];simp[aK];omega) ?_;refine gg rfl ?_
  refine aw (S:=fun x:Nat×List Nat×Nat=>([nat B,.ref 1 0 x.2.1.length,.int .u64 x.2.2,nat A,aa A.length,aa x.1],none::some (.row (x.2.1.map u32) 1)::nn4,zz6))
   (C:=fun x=>x.1<=A.length/\x.2.1.length=x.1/\LOk x.2.1/\x.2.2<=1/\val x.2.1+4294967296^x.1*x.2.2=val (A.take x.1)+val (B.take x.1)) (m:=fun x=>A.length-x.1) (0,[],0) ⟨zB _,rfl,nil_ok,by decide,by simp[val]⟩ (by simp;omega) ?_ ?_
  .exact ah rfl ⟨rfl,tr⟩ (by simp[nat,aa])
  rintro⟨k,r,c⟩ ⟨I,hr,i,J,d⟩ N v;simp only at I hr i J d;refine jC rfl (fun o=>?_) (fun o=>?_)
  .rw[ad]at o;have j:k<A.length:=by omega
   have u:=cF f k;have T:=cF g k;have w:=wS (n:=k)
   have next:∀{t:ai} {h:ab} {z:Frz} {nx:Nat},(bz 0 [(1,0),(5,1),(6,0),(24,0),(25,0),(26,0)] t h z nx fun _ _ kp=>kp=([nat B,.ref 1 0 (r++[(c+dg A k+dg B k)%4294967296]).length,.int .u64 ((c+dg A k+dg B k)/2^32:Nat),nat A,aa A.length,aa ((k+1:Nat):Int)],none::some (.row ((r++[(c+dg A k+dg B k)%4294967296]).map u32) 1)::nn4,zz6))->N t h z nx:=by
    intro t h z nx p;refine v (k+1,r++[(c+dg A k+dg B k)%4294967296],(c+dg A k+dg B k)/2^32) ⟨j,by simp[hr],i.snoc (by omega),by simp only;omega,?_⟩ (by simp only;omega) p;simp only;rw[D9,hr,dc,dc,ye,yG,show(2:Nat)^32=4294967296 by decide,qZ,yP,yP];omega
   clear v;refine jX k rfl rfl (eX j) rfl (gg rfl ?_);rw[zA];refine an rfl (fun h3=>?_) (fun h3=>?_)
   .rw[ad]at h3;refine jX k rfl rfl (eX (by omega)) rfl ?_;refine gg rfl ?_;have e:IntKind.u64.wrap (IntKind.u64.wrap ((c:Int)+IntKind.u64.wrap (dg A k:Int))+IntKind.u64.wrap (dg B k:Int))=((c+dg A k+dg B k:Nat):Int):=by simp only[eI];omega
    rw[e,dP];refine bI rfl rfl rfl rfl rfl rfl (by simp) (zB _) (by simp[aK];omega) ?_;refine gg rfl (bH (c+dg A k+dg B k) 32 rfl rfl rfl rfl (by decide) ?_);refine gE rfl (next (ah rfl ⟨?_,tr⟩ ?_))
    .rw[zY,ae bG];rfl
    simp[nat,aa,w,u32]
   rw[af]at h3;have h0:dg B k=0:=qb (by omega);refine gg rfl ?_;have e:IntKind.u64.wrap ((c:Int)+IntKind.u64.wrap (dg A k:Int))=((c+dg A k+dg B k:Nat):Int):=by simp only[eI];omega
   rw[e,dP];refine bI rfl rfl rfl rfl rfl rfl (by simp) (zB _) (by simp[aK];omega) ?_;refine gg rfl (bH (c+dg A k+dg B k) 32 rfl rfl rfl rfl (by decide) ?_);refine gE rfl (next (ah rfl ⟨?_,tr⟩ ?_))
   .rw[zY,ae bG];rfl
   simp[nat,aa,w,u32]
  rw[af]at o;obtain rfl:k=A.length:=by omega
  rw[zH,zZ (l:=B) (by omega)]at d;refine gE rfl (gg rfl ?_);have K:IntKind.u32.wrap (c:Int)=(c:Int):=by rw[dP];omega
  rw[K];refine bI rfl rfl rfl rfl rfl rfl (by simp) (zB _) (by simp[aK];omega) ?_;refine gg rfl ?_;have:LOk (r++[c]):=i.snoc (by omega);have y:=ff (r++[c]) (by simp;omega);have L:val (r++[c])=val a+val b:=by rw[D9,hr,d];exact(by omega)
  rw[L]at y;have M:r.map u32++[D.int IntKind.u32 (c:Int)]=(r++[c]).map u32:=by simp[u32]
  rw[M];refine lr rfl rfl ⟨nw (l:=r++[c]) (by simp),tr⟩ (by rw[oT (by simp)];exact y) fun z=>?_;exact jZ rfl
theorem ID (a b:List Nat) [M:LOk a] [O:LOk b](P:a.length<=1000000000)(Q:b.length<=1000000000):
 PU 236 [nat a,nat b]=some (if val a<val b then .tup [nat [],.bool false]else .tup [nat (ax (val a-val b)),.bool true]):=by
 have R:val (ax (val a))=val a:=bX _;have T:val (ax (val b))=val b:=bX _;have G:=nn M;have H:=nn O;refine PS rfl (jA rfl (ff a (by omega)) ?_);refine jA rfl (ff b (by omega)) ?_;refine gg rfl ?_;have j:LOk (ax (val a)):=cE _;have o:LOk (ax (val b)):=cE _;have I:val b<=val a->(ax (val b)).length<=(ax (val a)).length:=fun h=>bT.2 (zq h (bT.1 (zD _)));generalize ax (val a)=A at*;generalize ax (val b)=B at*;refine aB rfl rfl (CJ A B (by omega) (by omega)) ?_;refine gg rfl ?_;rw[R,T];refine an rfl (fun h1=>?_) (fun h1=>?_)
 .rw[ad]at h1
  have:val a<val b:=by
   grind[br]
  refine jF rfl ?_;rw[ve this];rfl
 rw[af]at h1
 have U:val b<=val a:=by
  grind[br]
 rw[eE];refine gg rfl (eu A.length rfl rfl (by simp) (by grind[aK]) ?_);refine gg rfl ?_
 refine aw (S:=fun x:Nat×List Nat×Nat=>([nat B,.ref 1 0 A.length,.int .u64 x.2.2,nat A,aa A.length,aa x.1],none::some (.row (x.2.1.map u32) 1)::nn4,zz6))
  (C:=fun x=>x.1<=A.length/\x.2.1.length=A.length/\LOk x.2.1/\x.2.2<=1/\val (x.2.1.take x.1)+val (B.take x.1)=val (A.take x.1)+4294967296^x.1*x.2.2) (m:=fun x=>A.length-x.1) (0,List.replicate A.length 0,0)
  ⟨zB _,by simp,oq _,zB _,by rfl⟩ (by omega) ?_ ?_
 .refine ah rfl ⟨?_,tr⟩ (by simp[nat,aa,u32]);rw[zM];intro x J;rw[(List.mem_replicate.1 J).2];rfl
 rintro⟨k,r,c⟩ ⟨V,hr,i,W,f⟩ N K;simp only at V hr i W f;refine jC rfl (fun p=>?_) (fun p=>?_)
 .rw[ad]at p;have g:k<A.length:=by omega
  have J:=cF j k;have Z:=cF o k;have w1:=wS (n:=k)
  have next:∀(v e:Nat),v<4294967296->e<=1->v+(c+dg B k)=dg A k+4294967296*e->∀{t:ai} {h:ab} {z:Frz} {nx:Nat},(bz 0 [(1,0),(6,0),(7,0),(22,0),(23,0),(24,0)] t h z nx fun _ _ kp=>kp=([nat B,.ref 1 0 A.length,.int .u64 e,nat A,aa A.length,aa ((k+1:Nat):Int)],none::some (.row ((r.set k v).map u32) 1)::nn4,zz6))->N t h z nx:=by
   intro v e q s he t h z nx u;refine K (k+1,r.set k v,e) ⟨g,by grind,i.set k q,s,?_⟩ (by omega) u;grind[oB,dc]
  clear K;refine jX k rfl rfl (eX g) rfl (gg rfl ?_);rw[zA]
  have body:∀d:Int,d=((dg A k:Int)-c-dg B k)%18446744073709551616->
   (∃v e:Nat,IntKind.u32.wrap d=v/\d=((d.toNat:Nat):Int)/\d.toNat/2^63=e/\v<4294967296/\e<=1/\v+(c+dg B k)=dg A k+4294967296*e):=by
   intro d hd;rw[Af];refine⟨(d%4294967296).toNat,d.toNat/2^63,by omega,by omega,rfl,by omega,by omega,by omega⟩
  refine an rfl (fun h3=>?_) (fun h3=>?_)
  .rw[ad]at h3;refine jX k rfl rfl (eX (by omega)) rfl ?_;refine gg rfl ?_;obtain⟨v,e,w,y,X,D,E,F⟩:=body (IntKind.u64.wrap (IntKind.u64.wrap (IntKind.u64.wrap (dg A k:Int)-(c:Int))-IntKind.u64.wrap (dg B k:Int))) (by simp[eI]);generalize IntKind.u64.wrap (IntKind.u64.wrap (IntKind.u64.wrap (dg A k:Int)-(c:Int))-IntKind.u64.wrap (dg B k:Int))=d at*;rw[w];refine aA k rfl rfl rfl rfl rfl g (ip r k v rfl rfl (zC _) rfl rfl (zB _) (by omega) ?_);refine gg rfl (bH d.toNat 63 rfl rfl y rfl (by decide) ?_);exact gE rfl (next v e D E F (ah rfl ⟨ae bG _,tr⟩ (by grind[nat,aa])))
  rw[af]at h3;have h0:dg B k=0:=qb (by omega);refine gg rfl ?_;obtain⟨v,e,w,y,X,D,E,F⟩:=body (IntKind.u64.wrap (IntKind.u64.wrap (dg A k:Int)-(c:Int))) (by grind[eI]);generalize IntKind.u64.wrap (IntKind.u64.wrap (dg A k:Int)-(c:Int))=d at*;rw[w];refine aA k rfl rfl rfl rfl rfl g (ip r k v rfl rfl (zC _) rfl rfl (zB _) (by omega) ?_);refine gg rfl (bH d.toNat 63 rfl rfl y rfl (by decide) ?_);exact gE rfl (next v e D E F (ah rfl ⟨ae bG _,tr⟩ (by grind[nat,aa])))
 rw[af]at p;obtain rfl:k=A.length:=by omega
 rw[zH,zZ (l:=r) (by omega)]at f;refine gE rfl (gg rfl ?_);have L:=ff r (by omega);rw[zZ (by omega)]at f
 have q:val r=val a-val b:=by
  have h1:=gT i;have Y:c=0\/c=1:=by omega
  grind
 rw[q]at L;refine lr rfl rfl ⟨nw (l:=r) hr.symm,tr⟩ (by rw[oT (l:=r) hr.symm];exact L) fun z=>?_;exact jZ rfl
theorem qQ (n:Nat):List.replicate n (D.int IntKind.u32 0)=(List.replicate n 0).map u32:=by
 simp[u32]
theorem v8 {x y:Nat}(a:x<4294967296)(b:y<4294967296):x*y<=18446744065119617025:=by
 calc x*y<=4294967295*4294967295:=z6 (by omega) (by omega)
  _=18446744065119617025:=by decide
theorem tJ (a b:List Nat) [J:LOk a] [K:LOk b](L:a.length<=1000000000)(M:b.length<=1000000000):PU 172 [nat a,nat b]=some (nat (ax (val a*val b))):=by
 have O:val (ax (val a))=val a:=bX _;have P:val (ax (val b))=val b:=bX _;have F:=nn J;have G:=nn K;refine PS rfl (jA rfl (ff a (by omega)) ?_);refine jA rfl (ff b (by omega)) ?_;refine gg rfl ?_;have t:LOk (ax (val a)):=cE _;have u:LOk (ax (val b)):=cE _;generalize ax (val a)=A at*;generalize ax (val b)=B at*;have Q:IntKind.i64.wrap (((A.map u32).length:Int)+((B.map u32).length:Int))=((A.length+B.length:Nat):Int):=by grind[wrap64]
 rw[Q];refine eu (A.length+B.length) rfl rfl rfl (by grind[aK]) ?_;rw[qQ];refine gg rfl ?_
 refine aw (S:=fun x:Nat×List Nat=>([nat B,.ref 1 0 (A.length+B.length),nat A,aa A.length,aa x.1],none::some (.row (x.2.map u32) 1)::nn3,zz5))
  (C:=fun x=>x.1<=A.length/\x.2.length=A.length+B.length/\LOk x.2/\val x.2=val (A.take x.1) *val B/\∀j,x.1+B.length<=j->dg x.2 j=0) (m:=fun x=>A.length-x.1) (0,List.replicate (A.length+B.length) 0)
  ⟨zB _,by simp,oq _,by simp[val,QO],fun j _=>oW _ _⟩ (by omega) ?_ ?_
 .exact ah rfl ⟨ae bG _,tr⟩ (by simp[nat,aa])
 rintro⟨k,r⟩ ⟨R,hr,h,f,T⟩ N U;simp only at R hr h f T;refine jC rfl (fun w=>?_) (fun w=>?_)
 .rw[ad]at w;have o:k<A.length:=by omega
  have V:=cF t k;have w1:=wS (n:=k);refine jX k rfl rfl (eX o) rfl (gg rfl ?_)
  refine aw (S:=fun x:Nat×List Nat×Nat=>([nat B,.ref 1 0 (A.length+B.length),aa k,u32 (dg A k),.int .u64 x.2.2,nat A,aa A.length,aa k,nat B,aa B.length,aa x.1],none::some (.row (x.2.1.map u32) 1)::nn9,zz11))
   (C:=fun x=>x.1<=B.length/\x.2.1.length=A.length+B.length/\LOk x.2.1/\x.2.2<4294967296/\val x.2.1+4294967296^(k+x.1) *x.2.2=val r+4294967296^k*(dg A k*val (B.take x.1))/\∀j,k+x.1<=j->dg x.2.1 j=dg r j) (m:=fun x=>B.length-x.1) (0,r,0)
   ⟨zB _,hr,h,by simp,by rfl,fun j _=>rfl⟩ (by omega) ?_ ?_
  .exact ah rfl ⟨ae bG _,tr⟩ (by simp[nat,aa,u32])
  rintro⟨i,r',c⟩ ⟨hi,y,d,H,g,p⟩ N2 D;simp only at hi y d H g p;refine jC rfl (fun h3=>?_) (fun h3=>?_)
  .rw[ad]at h3;have q:i<B.length:=by omega
   have W:=cF u i;have hq:=cF d (k+i);have X:=v8 V W;have wi:=wS (n:=i);have s:IntKind.i64.wrap ((k:Int)+i)=((k+i:Nat):Int):=by grind[wrap64]
   refine jX i rfl rfl (eX q) rfl (gg rfl (aA (k+i) rfl rfl rfl rfl s (by omega) ?_));refine gg rfl (nC r' (k+i) rfl (zC _) rfl (by omega) ?_);refine gg rfl ?_;have e1:((dg A k*dg B i:Nat):Int)=(dg A k:Int) *(dg B i:Int):=by simp
   have e:IntKind.u64.wrap ((c:Int)+IntKind.u64.wrap (IntKind.u64.wrap (IntKind.u64.wrap (dg A k:Int) *IntKind.u64.wrap (dg B i:Int))+IntKind.u64.wrap (dg r' (k+i):Int)))=((c+(dg A k*dg B i+dg r' (k+i)):Nat):Int):=by
    grind[bq,eI]
   rw[e,dP];refine aA (k+i) rfl rfl rfl rfl s (by omega) ?_;refine gg rfl (ip r' (k+i) ((c+(dg A k*dg B i+dg r' (k+i)))%4294967296) rfl rfl (zC _) rfl rfl (zB _) (by omega) ?_);refine gg rfl (bH (c+(dg A k*dg B i+dg r' (k+i))) 32 rfl rfl rfl rfl (by decide) ?_);refine gE rfl (D (i+1,r'.set (k+i) ((c+(dg A k*dg B i+dg r' (k+i)))%4294967296),(c+(dg A k*dg B i+dg r' (k+i)))/2^32) ⟨q,by grind,d.set _ (by omega),by grind,?_,?_⟩ (by omega) (ah rfl ⟨ae bG _,tr⟩ (by grind[nat,aa,u32])))
   .have Y:=GM (l:=r') (i:=k+i) (v:=(c+(dg A k*dg B i+dg r' (k+i)))%4294967296) (by omega);grind[qZ,dc]
   intro j Z;rw[fC,eE];grind
  rw[af]at h3;have E:IntKind.i64.wrap ((k:Int)+(B.map u32).length)=((k+B.length:Nat):Int):=by grind[wrap64]
  have ec:IntKind.u32.wrap (c:Int)=(c:Int):=by grind[dP]
  refine gE rfl (gg rfl ?_);rw[ec];refine aA (k+B.length) rfl rfl rfl rfl E (by omega) ?_;refine ip r' (k+B.length) c rfl rfl (zC _) rfl rfl (zB _) (by omega) ?_;refine gE rfl ?_;have Y:=GM (l:=r') (i:=k+B.length) (v:=c) (by omega);refine U (k+1,r'.set (k+B.length) c) ⟨o,by grind,d.set _ H,?_,?_⟩ (by omega) (ah rfl ⟨ae bG _,tr⟩ (by grind[nat,aa]));grind[dc]
  .intro j Z;rw[fC,eE,p j (by omega)];grind
 rw[af]at w;obtain rfl:k=A.length:=by omega
 rw[zH]at f;refine gE rfl (gg rfl ?_);have I:=ff r (by omega);rw[f,O,P]at I;refine lr rfl rfl ⟨nw (l:=r) hr.symm,tr⟩ (by rw[oT (l:=r) hr.symm];exact I) fun z=>?_;exact jZ rfl
section
variable {T:Tab}{sh:Shr}{nx0:Nat}{s:List Fr}{t:ai}{h:ab}{z:Frz}{nx:Nat}{q:Ex->ai->ab->Frz->Nat->Prop}
variable {base i:Nat}{res:List Nat}{dst:Nat}{g:Gd}{rest:List KOper}
theorem ko {e:EqK}{x y:X}{c:IntKind}{a b:Int}(n m:Nat)(d:x.ev t=.int c a)(f:y.ev t=.int c b)(j:a=n)(k:b=m)(l:m≠0)(o:c.wrap ((n/m:Nat):Int)=((n/m:Nat):Int))
 (p:wpM T sh nx0 (.ops base res rest::s) .normal (upd t dst (.int c ((n/m:Nat):Int))) h z nx q):
 wpM T sh nx0 (.ops base res (⟨i,some dst,none,g,.bin .quo e x y⟩::rest)::s) .normal t h z nx q:=by
 refine EF d f (by omega) ?_;grind
theorem Cc {e:EqK}{x y:X}{c:IntKind}{a b:Int}(n m:Nat)(d:x.ev t=.int c a)(f:y.ev t=.int c b)(j:a=n)(k:b=m)(l:m≠0)
 (o:wpM T sh nx0 (.ops base res rest::s) .normal (upd t dst (.int c ((n%m:Nat):Int))) h z nx q):
 wpM T sh nx0 (.ops base res (⟨i,some dst,none,g,.bin .rem e x y⟩::rest)::s) .normal t h z nx q:=by
 refine dx d f (by omega) ?_;grind
end
theorem rf (w n:Nat):BitVec.ofInt w (n:Int)=BitVec.ofNat w n:=by simp
theorem A5 {a b:Nat}(c:a<4294967296)(d:b<4294967296):IntKind.u64.wrap ((BitVec.ofInt IntKind.u64.bits ((a*2^32:Nat):Int) |||BitVec.ofInt IntKind.u64.bits (b:Int)).toNat:Int)=((a*4294967296+b:Nat):Int):=by
 rw[rf,rf,wM,xC,xC];have e:IntKind.u64.bits=64:=rfl;rw[e,zU (by omega),zU (by omega),zx a,<-y4 (by omega),bq (by omega)]
theorem orU64' {a b:Nat}(c:a<4294967296)(d:b<4294967296):IntKind.u64.wrap ((BitVec.ofInt IntKind.u64.bits (b:Int) |||BitVec.ofInt IntKind.u64.bits ((a*2^32:Nat):Int)).toNat:Int)=((a*4294967296+b:Nat):Int):=by
 grind[BitVec.or_comm,A5]
theorem UU (a:List Nat)(d:Nat) [t:LOk a](u:a.length<=1000000000)(c:d≠0)(B:d<4294967296):PU 230 [nat a,.int .u32 d]=some (.tup [nat (ax (val a/d)),.int .u32 (val a%d:Nat)]):=by
 refine PS rfl (gg rfl (eu a.length rfl rfl (by simp) (by grind[aK]) ?_));rw[qQ];refine gg rfl ?_
 refine aw (S:=fun x:Nat×List Nat×Nat=>([nat a,.int .u32 d,.ref 2 0 a.length,.int .u64 x.2.2,aa ((x.1:Int)-1)],none::none::some (.row (x.2.1.map u32) 1)::nn2,zz5))
  (C:=fun x=>x.1<=a.length/\x.2.1.length=a.length/\LOk x.2.1/\x.2.2<d/\val (a.drop x.1)=val (x.2.1.drop x.1) *d+x.2.2) (m:=fun x=>x.1) (a.length,List.replicate a.length 0,0)
  ⟨zD _,by simp,oq _,wW c,by simp[val]⟩ (by omega) ?_ ?_
 .refine ah rfl ⟨ae bG _,tr⟩ ?_;grind[wrap64,nat,aa]
 rintro⟨n,q,r⟩ ⟨v,i,f,hr,b⟩ N w;simp at v i f hr b;refine jC rfl (fun j=>?_) (fun j=>?_)
 .rw[bk]at j;have y:=cF t (n-1);have A:IntKind.u64.wrap (dg a (n-1):Int)=(dg a (n-1):Int):=bq (by omega);have g:IntKind.u64.wrap (d:Int)=(d:Int):=bq (by omega);have D:IntKind.i64.wrap ((n:Int)-1-1)=((n-1:Nat):Int)-1:=by grind[wrap64]
  have h:(r*4294967296+dg a (n-1))/d<4294967296:=by
   rw[zm (by omega)];omega
  have k:(r*4294967296+dg a (n-1))%d<d:=zI _ (by omega);refine gg rfl (kJ r 32 rfl rfl rfl rfl (by decide) (bq (by omega)) ?_);refine jX (n-1) rfl (by omega) (eX (by omega)) rfl ?_;refine gg rfl ?_;rw[A,A5 (by omega) y];rw[g];refine ko (r*4294967296+dg a (n-1)) d rfl rfl rfl rfl c (bq (by omega)) ?_;refine gg rfl ?_;rw[dP,zU h];refine aA (n-1) rfl rfl rfl rfl (by omega) (by omega) ?_;refine ip q (n-1) ((r*4294967296+dg a (n-1))/d) rfl rfl (zC _) rfl rfl (zB _) (by omega) ?_;refine gg rfl ?_;rw[g];refine Cc (r*4294967296+dg a (n-1)) d rfl rfl rfl rfl c (gE rfl (w (n-1,q.set (n-1) ((r*4294967296+dg a (n-1))/d),(r*4294967296+dg a (n-1))%d) ⟨by omega,by grind,f.set _ h,k,?_⟩ (by omega) (ah rfl ⟨ae bG _,tr⟩ (by grind[nat,aa]))));rw[lw,lw (q.set _ _),fC,ve ⟨rfl,by omega⟩,xt (by omega),wO (by omega),b];grind[Nat.div_add_mod]
 rw[aW]at j;obtain rfl:n=0:=by omega
 simp at b;refine gE rfl (gg rfl ?_);have s:=ff q (by omega);have o:val q=val a/d:=by rw[b,vB,Nat.add_mul_div_right _ _ (by omega),xf hr,zC]
 have p:val a%d=r:=by grind[Nat.add_mul_mod_self_right,Nat.mod_eq_of_lt]
 rw[o]at s;refine lr rfl rfl ⟨nw (l:=q) i.symm,tr⟩ (by rw[oT (l:=q) i.symm];exact s) fun z=>?_;refine jF rfl ?_;have e:IntKind.u32.wrap (r:Int)=(r:Int):=by grind[dP]
 rw[e,p];rfl
theorem V0 {l:List Nat}{V:Nat}(h:∀j,j<l.length->dg l j=V/4294967296^j%4294967296):val l=V%4294967296^l.length:=by
 have key:∀k,k<=l.length->val (l.take k)=V%4294967296^k:=by
  intro k
  induction k with
  |zero=>simp[val,Nat.mod_one]
  |succ k a=>grind[dc,Nat.mod_pow_succ]
 grind
theorem N5 {a:List Nat}(c:LOk a){s:Nat}(d:s<=31)(i:Nat):(dg a (i+1) *4294967296+dg a i)/2^s%4294967296=val a/2^s/4294967296^i%4294967296:=by
 have h1:val a/4294967296^i=dg a i+4294967296*(dg a (i+1)+4294967296*val (a.drop (i+2))):=by
  rw[<-lw a (i+1),<-lw a i];have:=lQ a i
  have b:val (a.take i)<4294967296^i\/a.length<=i:=by
   by_cases f:i<=a.length
   .have:=gT (c.take i);grind
   omega
  rcases b with b|b
  simp_all[xa,y7]
  .rw[yY b,xf]
   .rfl
   grind[Nat.lt_of_lt_of_le,gT,Nat.pow_le_pow_right]
 rw[x5,zx (2^s),<-x5,h1];generalize val (a.drop (i+2))=R
 have e:(18446744073709551616:Nat)=2^s*(4294967296*2^(32-s)):=by
  rw[Nat.mul_left_comm,<-yn,show s+(32-s)=32 by omega]
 have g:dg a i+4294967296*(dg a (i+1)+4294967296*R)=(dg a (i+1) *4294967296+dg a i)+2^s*(4294967296*2^(32-s) *R):=by
  grind
 simp_all[xa,yk,yi]
theorem Y8 (a:List Nat)(s:Nat) [e:LOk a](u:a.length<=1000000000)(v:s<=31):PU 234 [nat a,.int .i64 s]=some (nat (ax (val a/2^s))):=by
 refine PS rfl (gg rfl (eu a.length rfl rfl (by simp) (by grind[aK]) ?_));rw[qQ];refine gg rfl ?_
 refine aw (S:=fun x:Nat×List Nat=>([nat a,aa s,.ref 2 0 a.length,nat a,aa a.length,aa x.1],none::none::some (.row (x.2.map u32) 1)::nn3,zz6))
  (C:=fun x=>x.1<=a.length/\x.2.length=a.length/\LOk x.2/\∀j,j<x.1->dg x.2 j=val a/2^s/4294967296^j%4294967296) (m:=fun x=>a.length-x.1) (0,List.replicate a.length 0)
  ⟨zB _,by simp,oq _,fun j f=>by omega⟩ (by omega) ?_ ?_
 .exact ah rfl ⟨ae bG _,tr⟩ (by simp[nat,aa])
 rintro⟨k,r⟩ ⟨w,hr,d,c⟩ N q;simp only at w hr d c;refine jC rfl (fun g=>?_) (fun g=>?_)
 .rw[ad]at g;have b:k<a.length:=by omega
  have y:=cF e k;have A:=cF e (k+1);have B:IntKind.u64.wrap (dg a k:Int)=(dg a k:Int):=bq (by omega);have h:IntKind.u64.wrap (dg a (k+1):Int)=(dg a (k+1):Int):=bq (by omega);have o:=wS (n:=k);refine jX k rfl rfl (eX b) rfl (gg rfl ?_);rw[zA,B];refine an rfl (fun h3=>?_) (fun h3=>?_)
  .rw[ad,o]at h3;refine jX (k+1) rfl o (eX (by omega)) rfl ?_;refine gg rfl ?_;rw[h];refine kJ (dg a (k+1)) 32 rfl rfl rfl rfl (by decide) (bq (by omega)) ?_;refine gg rfl ?_;rw[orU64' A y];refine bH (dg a (k+1) *4294967296+dg a k) s rfl rfl rfl rfl (by show s<=64;omega) ?_;refine gg rfl ?_;rw[dP];refine aA k rfl rfl rfl rfl rfl b (ip r k ((dg a (k+1) *4294967296+dg a k)/2^s%4294967296) rfl rfl (zC _) rfl rfl (zB _) (by omega) ?_);refine gE rfl (q (k+1,r.set k ((dg a (k+1) *4294967296+dg a k)/2^s%4294967296)) ⟨b,by grind,d.set _ (zI _ (by decide)),?_⟩ (by omega) (ah rfl ⟨ae bG _,tr⟩ (by grind[nat,aa])));intro j f;rw[fC];simp_all[N5];grind
  rw[af,o]at h3;refine gg rfl (bH (dg a k) s rfl rfl rfl rfl (by show s<=64;omega) ?_);refine gg rfl ?_;rw[dP];refine aA k rfl rfl rfl rfl rfl b (ip r k ((dg a k)/2^s%4294967296) rfl rfl (zC _) rfl rfl (zB _) (by omega) ?_);refine gE rfl (q (k+1,r.set k ((dg a k)/2^s%4294967296)) ⟨b,by grind,d.set _ (zI _ (by decide)),?_⟩ (by omega) (ah rfl ⟨ae bG _,tr⟩ (by grind[nat,aa])));intro j f;rw[fC];by_cases p:k=j
  .subst p;rw[ve ⟨rfl,by omega⟩];rw[<-N5 e v]
   try rw[qb (l:=a) (i:=k+1) (by omega),Nat.zero_mul,zC]
  grind
 rw[af]at g;refine gE rfl (gg rfl ?_);have t:=ff r (by omega)
 have D:val r=val a/2^s:=by
  rw[V0 (fun j f=>c j (by omega)),hr,zU];exact zq (vJ _ _) (gT e)
 rw[D]at t;refine lr rfl rfl ⟨nw (l:=r) hr.symm,tr⟩ (by rw[oT (l:=r) hr.symm];exact t) fun z=>?_;exact jZ rfl
section
variable {T:Tab}{sh:Shr}{nx0:Nat}{s:List Fr}{t:ai}{h:ab}{z:Frz}{nx:Nat}{q:Ex->ai->ab->Frz->Nat->Prop}
theorem bd {fn:KFn}{a:Ex}{d:D}{K:D->ab->Frz->Nat->Prop}(e:(match a with|.exit _=>false|_=>true)=true)(b:ln t h fn.res=some d)(c:K d h z nx):
 wpM T sh nx0 [] a t h z nx (bB fn K):=by
 refine bo ?_
 cases a with
 |exit i=>grind
 |normal=>exact kq b c
 |ret=>exact kq b c
end
theorem s8 {nx0:Nat}{h:ab}{id:Nat}{l:List Nat}(a:h id=some (.row (l.map u32) 1)):cz nx0 h id=some (.row (l.map u32) 1):=by
 unfold cz;rw[a,lB (b:=some (.row (l.map u32) 1)) (ae bG _)];rfl
theorem orU32 {c x s:Nat}(g:s<=31)(b:c<2^s):IntKind.u32.wrap ((BitVec.ofInt IntKind.u32.bits (c:Int) |||BitVec.ofInt IntKind.u32.bits ((x*2^s%4294967296:Nat):Int)).toNat:Int)=((c+x*2^s%4294967296:Nat):Int)
 /\c+x*2^s%4294967296<4294967296:=by
 have e:(4294967296:Nat)=2^s*2^(32-s):=by rw[<-yn,show s+(32-s)=32 by omega]
 have em:x*2^s%4294967296=2^s*(x%2^(32-s)):=by grind[Nat.mul_comm,Nat.mul_mod_mul_left]
 have d:x%2^(32-s)+1<=2^(32-s):=zI _ (yk _)
 have a:c+x*2^s%4294967296<4294967296:=by
  have:=zf (2^s) d;grind
 refine⟨?_,a⟩;rw[rf,rf,BitVec.or_comm,wM,xC,xC];have f:IntKind.u32.bits=32:=rfl;rw[f,zU (show x*2^s%4294967296<2^32 by omega),zU (show c<2^32 by omega),em,<-y4 b,<-em,dP,zU (by omega),vB]
theorem left1 (a:List Nat)(s:Nat) [A:LOk a](B:a.length<=1000000000)(t:s<=31){h:ab}{z:Frz}{K:D->ab->Frz->Nat->Prop}(d:(fun(_:ab) (_:Frz)=>True) h z)
 (E:∀(r:List Nat) (h':ab) (z':Frz),r.length=a.length+1->LOk r->val r=val a*2^s->h' 80=some (.row (r.map u32) 1)->z' 80=0->(fun(_:ab) (_:Frz)=>True) h' z'->K (.ref 80 0 (a.length+1)) h' z' 130):
 wpM TT (shr TT 5) 79 [.code qK.1.code] .normal (enter [nat a,.int .i64 s]) h z 79 (bB qK.1 K):=by
 have g:2^s<=2147483648:=by simpa using zu (n:=2) (by decide) t
 refine gg rfl ?_;have F:IntKind.i64.wrap (((a.map u32).length:Int)+1)=((a.length+1:Nat):Int):=by grind[wrap64]
 rw[F];refine eu (a.length+1) rfl rfl rfl (by grind[aK]) ?_;rw[qQ];refine gg rfl ?_
 refine bO (S:=fun x:Nat×List Nat=>([aa s,.ref 80 0 (a.length+1),nat a,aa a.length,aa x.1],none::some (.row (x.2.map u32) 1)::nn3,zz5))
  (O:=fun _ u v=>(fun(_:ab) (_:Frz)=>True) u v)
  (C:=fun x=>x.1<=a.length/\x.2.length=a.length+1/\LOk x.2/\dg x.2 x.1<2^s/\val (x.2.take x.1)+4294967296^x.1*dg x.2 x.1=val (a.take x.1) *2^s/\∀j,x.1<j->dg x.2 j=0) (m:=fun x=>a.length-x.1) (0,List.replicate (a.length+1) 0)
  ⟨zB _,by simp,oq _,by simp[oW,yk],by simp[val,oW],fun j _=>oW _ _⟩ (by omega) ?_ ?_
 .exact ba rfl ⟨ae bG _,tr⟩ ⟨by simp[nat,aa],tr⟩
 rintro⟨k,r⟩ ⟨o,hr,c,w,b,G⟩ u v d N H;simp only at o hr c w b G;refine jC rfl (fun f=>?_) (fun f=>?_)
 .rw[ad]at f;simp only at f;have e:k<a.length:=by omega
  have P:=cF A k;have I:IntKind.u64.wrap (dg a k:Int)=(dg a k:Int):=bq (by omega);have J:=wS (n:=k);have L:dg a k*2^s<=4294967295*2147483648:=z6 (by omega) g;obtain⟨p,q⟩:=orU32 (x:=dg a k) t w
  have y:dg a k*2^s/2^32<2^s:=by
   simp_all[zm,zx,yk]
  refine jX k rfl rfl (eX e) rfl (gg rfl ?_);rw[I];refine kJ (dg a k) s rfl rfl rfl rfl (by show s<=64;omega) (bq (by omega)) ?_;refine gg rfl (aA k rfl rfl rfl rfl rfl (by omega) ?_);refine nC r k rfl (zC _) rfl (by omega) ?_;refine gg rfl ?_;rw[dP,p];refine aA k rfl rfl rfl rfl rfl (by omega) ?_;refine ip r k (dg r k+dg a k*2^s%4294967296) rfl rfl (zC _) rfl rfl (zB _) (by omega) ?_;refine gg rfl (bH (dg a k*2^s) 32 rfl rfl rfl rfl (by decide) ?_);have M:IntKind.u32.wrap ((dg a k*2^s/2^32:Nat):Int)=((dg a k*2^s/2^32:Nat):Int):=by grind[dP]
  refine gg rfl ?_;rw[M];refine aA (k+1) rfl rfl rfl rfl J (by omega) ?_;refine ip (r.set k (dg r k+dg a k*2^s%4294967296)) (k+1) (dg a k*2^s/2^32) rfl rfl (zC _) rfl rfl (zB _) (by grind) ?_;refine gE rfl ?_
  refine H (k+1,(r.set k (dg r k+dg a k*2^s%4294967296)).set (k+1) (dg a k*2^s/2^32)) ⟨e,by grind,(c.set _ q).set _ (by omega),?_,?_,?_⟩ (by omega)
   (ba rfl ⟨ae bG _,tr⟩ ⟨by grind[nat,aa],tr⟩)
  simp_all[fC]
  .rw[fC,ve ⟨rfl,by grind⟩,yx (zD _),oB (by omega),dc a,yX,<-b,show(2:Nat)^32=4294967296 by decide,ye,yG,yP,yG,qZ,yi,yG]
  intro j Q;rw[fC,eE,fC,eE];grind
 rw[af]at f;obtain rfl:k=a.length:=by omega
 rw[zH]at b;refine gE rfl (gg rfl (bd rfl rfl (E r _ _ hr c ?_ rfl rfl (tr))));rw[<-b,<-zZ (l:=r) (i:=a.length+1) (by omega),dc];grind
theorem left2 (a:List Nat)(s:Nat) [E:LOk a](F:a.length<=1000000000)(v:s<=31)(us:List Nat){h:ab}{z:Frz}{K:D->ab->Frz->Nat->Prop}(b:(fun(e:ab) (f:Frz)=>e 80=some (.row (us.map u32) 1)/\f 80=0) h z)
 (G:∀(r:List Nat) (h':ab) (z':Frz),r.length=a.length+1->LOk r->val r=val a*2^s->h' 131=some (.row (r.map u32) 1)->z' 131=0->(fun(e:ab) (f:Frz)=>e 80=some (.row (us.map u32) 1)/\f 80=0) h' z'->K (.ref 131 0 (a.length+1)) h' z' 181):
 wpM TT (shr TT 5) 130 [.code qK.1.code] .normal (enter [nat a,.int .i64 s]) h z 130 (bB qK.1 K):=by
 have p:2^s<=2147483648:=by simpa using zu (n:=2) (by decide) v
 refine gg rfl ?_;have H:IntKind.i64.wrap (((a.map u32).length:Int)+1)=((a.length+1:Nat):Int):=by grind[wrap64]
 rw[H];refine eu (a.length+1) rfl rfl rfl (by grind[aK]) ?_;rw[qQ];refine gg rfl ?_
 refine bO (S:=fun x:Nat×List Nat=>([aa s,.ref 131 0 (a.length+1),nat a,aa a.length,aa x.1],none::some (.row (x.2.map u32) 1)::nn3,zz5))
  (O:=fun _ w y=>(fun(e:ab) (f:Frz)=>e 80=some (.row (us.map u32) 1)/\f 80=0) w y)
  (C:=fun x=>x.1<=a.length/\x.2.length=a.length+1/\LOk x.2/\dg x.2 x.1<2^s/\val (x.2.take x.1)+4294967296^x.1*dg x.2 x.1=val (a.take x.1) *2^s/\∀j,x.1<j->dg x.2 j=0) (m:=fun x=>a.length-x.1) (0,List.replicate (a.length+1) 0)
  ⟨zB _,by simp,oq _,by simp[oW,yk],by simp[val,oW],fun j _=>oW _ _⟩ (by omega) ?_ ?_
 .exact ba rfl ⟨ae bG _,tr⟩ ⟨by simp[nat,aa],⟨s8 b.1,b.2⟩⟩
 rintro⟨k,r⟩ ⟨q,hr,d,A,c,I⟩ w y b N J;simp only at q hr d A c I;refine jC rfl (fun o=>?_) (fun o=>?_)
 .rw[ad]at o;simp only at o;have g:k<a.length:=by omega
  have R:=cF E k;have L:IntKind.u64.wrap (dg a k:Int)=(dg a k:Int):=bq (by omega);have M:=wS (n:=k);have P:dg a k*2^s<=4294967295*2147483648:=z6 (by omega) p;obtain⟨t,u⟩:=orU32 (x:=dg a k) v A
  have B:dg a k*2^s/2^32<2^s:=by
   simp_all[zm,zx,yk]
  refine jX k rfl rfl (eX g) rfl (gg rfl ?_);rw[L];refine kJ (dg a k) s rfl rfl rfl rfl (by show s<=64;omega) (bq (by omega)) ?_;refine gg rfl (aA k rfl rfl rfl rfl rfl (by omega) ?_);refine gg rfl (nC r k rfl (zC _) rfl (by omega) ?_);refine gg rfl ?_;rw[dP,t];refine aA k rfl rfl rfl rfl rfl (by omega) ?_;refine gg rfl (ip r k (dg r k+dg a k*2^s%4294967296) rfl rfl (zC _) rfl rfl (zB _) (by omega) ?_);refine gg rfl (bH (dg a k*2^s) 32 rfl rfl rfl rfl (by decide) ?_);have Q:IntKind.u32.wrap ((dg a k*2^s/2^32:Nat):Int)=((dg a k*2^s/2^32:Nat):Int):=by grind[dP]
  refine gg rfl ?_;rw[Q];refine aA (k+1) rfl rfl rfl rfl M (by omega) ?_;refine ip (r.set k (dg r k+dg a k*2^s%4294967296)) (k+1) (dg a k*2^s/2^32) rfl rfl (zC _) rfl rfl (zB _) (by grind) ?_;refine gE rfl ?_
  refine J (k+1,(r.set k (dg r k+dg a k*2^s%4294967296)).set (k+1) (dg a k*2^s/2^32)) ⟨g,by grind,(d.set _ u).set _ (by omega),?_,?_,?_⟩ (by omega)
   (ba rfl ⟨ae bG _,tr⟩ ⟨by grind[nat,aa],⟨s8 b.1,b.2⟩⟩)
  simp_all[fC]
  .rw[fC,ve ⟨rfl,by grind⟩,yx (zD _),oB (by omega),dc a,yX,<-c,show(2:Nat)^32=4294967296 by decide,ye,yG,yP,yG,qZ,yi,yG]
  intro j T;rw[fC,eE,fC,eE];grind
 rw[af]at o;obtain rfl:k=a.length:=by omega
 rw[zH]at c;refine gE rfl (gg rfl (bd rfl rfl (G r _ _ hr d ?_ rfl rfl (b))));rw[<-c,<-zZ (l:=r) (i:=a.length+1) (by omega),dc];grind
def len8:ByteArray:=⟨#[0,1,2,2,3,3,3,3,4,4,4,4,4,4,4,4,5,5,5,5,5,5,5,5,5,5,5,5,5,5,5,5,6,6,6,6,6,6,6,6,6,6,6,6,6,6,6,6,6,6,6,6,6,6,6,6,6,6,6,6,6,6,6,6,7,7,7,7,7,7,7,7,7,7,7,7,7,7,7,7,7,7,7,7,7,7,7,7,7,7,7,7,7,7,7,7,7,7,7,7,7,7,7,7,7,7,7,7,7,7,7,7,7,7,7,7,7,7,7,7,7,7,7,7,7,7,7,7,8,8,8,8,8,8,8,8,8,8,8,8,8,8,8,8,8,8,8,8,8,8,8,8,8,8,8,8,8,8,8,8,8,8,8,8,8,8,8,8,8,8,8,8,8,8,8,8,8,8,8,8,8,8,8,8,8,8,8,8,8,8,8,8,8,8,8,8,8,8,8,8,8,8,8,8,8,8,8,8,8,8,8,8,8,8,8,8,8,8,8,8,8,8,8,8,8,8,8,8,8,8,8,8,8,8,8,8,8,8,8,8,8,8,8,8,8,8,8,8,8,8,8,8,8,8,8,8]⟩
def iC (k:Nat):UInt8:=len8.data.toList.getD k 0
set_option maxRecDepth 100000 in
theorem io:∀k,k<256->len8.data.toList[k]?=some (iC k)/\(iC k).toNat<=8/\k<2^(iC k).toNat/\(k≠0->2^(iC k).toNat<=2*k):=by decide+kernel
theorem jz {k:Nat}(h:k<256):len8.toList[k]?=some (iC k):=by
 grind[Go.ByteArray.toList_eq,io]
theorem PL (x:Nat)(h:x<4294967296):∃L:Nat,PU 158 [.int .u32 x]=some (.int .i64 L)/\L<=32/\x<2^L/\(x≠0->2^L<=2*x):=by
 by_cases h1:65536<=x
 .by_cases f:256<=x/2^16
  .have a:x/2^16/2^8<256:=by omega
   obtain⟨_,e,c,d⟩:=io (x/2^16/2^8) a;refine⟨24+(iC (x/2^16/2^8)).toNat,?_,by omega,?_,fun h0=>?_⟩
   .refine PS rfl (jC rfl (fun g=>?_) (fun g=>?_))
    .refine gg rfl (bH x 16 rfl rfl rfl rfl (by decide) ?_);refine jC rfl (fun g=>?_) (fun g=>?_)
     .refine gg rfl (bH (x/2^16) 8 rfl rfl rfl rfl (by decide) ?_);have b:IntKind.u8.wrap (((x/2^16/2^8):Nat):Int)=(((x/2^16/2^8):Nat):Int):=by simp[IntKind.wrap,IntKind.bits,IntKind.signed];omega
      refine gg rfl (eH ((x/2^16/2^8)) rfl rfl b (jz a) (jF rfl ?_));grind[wrap64]
     rw[aW]at g;omega
    rw[aW]at g;omega
   grind;grind
  have a:x/2^16<256:=by omega
  obtain⟨_,e,c,d⟩:=io (x/2^16) a;refine⟨16+(iC (x/2^16)).toNat,?_,by omega,?_,fun h0=>?_⟩
  .refine PS rfl (jC rfl (fun g=>?_) (fun g=>?_))
   .refine gg rfl (bH x 16 rfl rfl rfl rfl (by decide) ?_);refine jC rfl (fun g=>?_) (fun g=>?_)
    .rw[bk]at g;omega
    have b:IntKind.u8.wrap (((x/2^16):Nat):Int)=(((x/2^16):Nat):Int):=by simp[IntKind.wrap,IntKind.bits,IntKind.signed];omega
    refine gg rfl (eH ((x/2^16)) rfl rfl b (jz a) (jF rfl ?_));grind[wrap64]
   rw[aW]at g;omega
  grind;grind
 by_cases f:256<=x
 .have a:x/2^8<256:=by omega
  obtain⟨_,e,c,d⟩:=io (x/2^8) a;refine⟨8+(iC (x/2^8)).toNat,?_,by omega,?_,fun h0=>?_⟩
  .refine PS rfl (jC rfl (fun g=>?_) (fun g=>?_))
   .rw[bk]at g;omega
   refine jC rfl (fun g=>?_) (fun g=>?_)
   .refine gg rfl (bH x 8 rfl rfl rfl rfl (by decide) ?_);have b:IntKind.u8.wrap (((x/2^8):Nat):Int)=(((x/2^8):Nat):Int):=by simp[IntKind.wrap,IntKind.bits,IntKind.signed];omega
    refine gg rfl (eH ((x/2^8)) rfl rfl b (jz a) (jF rfl ?_));grind[wrap64]
   rw[aW]at g;omega
  grind;grind
 have a:x<256:=by omega
 obtain⟨_,e,c,d⟩:=io x a;refine⟨(iC x).toNat,?_,by omega,c,d⟩;refine PS rfl (jC rfl (fun g=>?_) (fun g=>?_))
 .rw[bk]at g;omega
 refine jC rfl (fun g=>?_) (fun g=>?_)
 .rw[bk]at g;omega
 have b:IntKind.u8.wrap ((x:Nat):Int)=((x:Nat):Int):=by simp[IntKind.wrap,IntKind.bits,IntKind.signed];omega
 have i:=ww (x:=(((iC (x)).toNat:Nat):Int));refine gg rfl (eH (x) rfl rfl b (jz a) (jF rfl ?_));grind
theorem T4 (x:Nat)(b:x<4294967296)(h0:x≠0):∃s:Nat,PU 231 [.int .u32 x]=some (.int .i64 s)/\s<=31/\2147483648<=x*2^s/\(x+1) *2^s<=4294967296:=by
 obtain⟨L,h1,c,h3,a⟩:=PL x b;have a:=a h0;have d:L≠0:=by grind
 refine⟨32-L,?_,by omega,?_,?_⟩
 .refine PS rfl (jA rfl h1 (jF rfl ?_));grind[wrap64]
 .have e:2^L*2^(32-L)=4294967296:=by rw[<-yn,show L+(32-L)=32 by omega]
  have:=zF (2^(32-L)) a;grind
 have e:2^L*2^(32-L)=4294967296:=by rw[<-yn,show L+(32-L)=32 by omega]
 rw[<-e];exact zF _ h3
theorem dg_mid {a w b:List Nat}{k:Nat}(h:k<w.length):dg (a++w++b) (a.length+k)=dg w k:=by
 grind[P9,Ys]
theorem set_mid {b w a:List Nat}{k v:Nat}(h:k<w.length):(b++w++a).set (b.length+k) v=b++w.set k v++a:=by
 grind
section
variable {T:Tab}{sh:Shr}{nx0:Nat}{s:List Fr}{t:ai}{h:ab}{z:Frz}{nx:Nat}{q:Ex->ai->ab->Frz->Nat->Prop}
variable {base i:Nat}{res:List Nat}{g:Gd}{rest:List KOper}
theorem ur {d:Bool}{a v:X}{e:Option Nat}{id j:Nat}{w':Int}(b w c:List Nat)(k x:Nat)(l:a.ev t=.ptr id j 0)(m:v.ev t=.int .u32 w')(f:j=b.length+k)(n:w'=x)(hr:g.h base h id=some (.row ((b++w++c).map u32) 1))(r:g.z base z id=0)(o:k<w.length)
 (p:wpM T sh nx0 (.ops base res rest::s) .normal (put t e (.tup [])) (upd h id (some (.row ((b++w.set k x++c).map u32) 1))) z nx q):
 wpM T sh nx0 (.ops base res (⟨i,e,none,g,.store d 1 a v⟩::rest)::s) .normal t h z nx q:=by
 refine ip (b++w++c) (b.length+k) x l m f n hr (by omega) (by grind) ?_;rw[set_mid o];exact p
theorem ov {d:Bool}{a:X}{e:Nat}{id j:Nat}(b w c:List Nat)(k:Nat)(l:a.ev t=.ptr id j 0)(f:j=b.length+k)(hr:g.h base h id=some (.row ((b++w++c).map u32) 1))(m:k<w.length)
 (n:wpM T sh nx0 (.ops base res rest::s) .normal (upd t e (.int .u32 (dg w k))) h z nx q):
 wpM T sh nx0 (.ops base res (⟨i,some e,none,g,.load d false 1 a⟩::rest)::s) .normal t h z nx q:=by
 refine nC (b++w++c) (b.length+k) l f hr (by grind) ?_;rw[dg_mid m];exact n
end
theorem vh {l:List Nat}{n:Nat}(h:LOk l)(a:l.length=n+1):val l=val (l.take n)+4294967296^n*dg l n/\val (l.take n)<4294967296^n:=by
 constructor
 .have:=dc l n;grind
 have:=gT (h.take n);grind
theorem kh {l:List Nat}(h:LOk l)(n:Nat):val (l.take n)<4294967296^n:=by
 refine zc (gT (h.take n)) (zu (by decide) (by grind))
structure Trial (w v:List Nat)(n:Nat):Prop where
 n2:2<=n
 wl:w.length=n+1
 wo:LOk w
 vo:LOk v
 vl:n<=v.length
 hi:2147483648<=dg v (n-1)
 lt:val w<4294967296*val (v.take n)
theorem aux0 (T:Nat){d:Nat}(h:0<d):T<(T/d+1) *d:=by
 have:=yH T d;have a:=zI T h;grind
theorem aux1 {x P T d:Nat}(h1:x<P)(a:d<4294967296):x+P*(T*4294967296+d)<(T+1) *(P*4294967296):=by
 have h3:P*(T*4294967296+d)+P<=(T+1) *(P*4294967296):=by
  have e:(T+1) *(P*4294967296)=P*((T+1) *4294967296):=by grind
  rw[e,<-Nat.mul_succ];exact zf _ (by omega)
 omega
theorem aux3 {q a b r d:Nat}(h0:q*b<=18446744065119617025)(h:4294967296<=r\/q*b<=r*4294967296+d):q*(a*4294967296+b)<=(q*a+r) *4294967296+d:=by
 grind
theorem LC {x P T:Nat}(h:x<P):x+P*T<(T+1) *P:=by
 grind
theorem Trial.v3 {w v:List Nat}{n:Nat}(h:Trial w v n):val (v.take n)=val (v.take (n-2))+4294967296^(n-2) *(dg v (n-1) *4294967296+dg v (n-2)):=by
 obtain⟨m,rfl⟩:∃m,n=m+2:=⟨n-2,by have:=h.n2;omega⟩;simp;rw[dc,dc,ye,yP,yi,zx 4294967296];omega
theorem Trial.w3 {w v:List Nat}{n:Nat}(h:Trial w v n):val w=val (w.take (n-2))+4294967296^(n-2) *((dg w n*4294967296+dg w (n-1)) *4294967296+dg w (n-2)):=by
 obtain⟨m,rfl⟩:∃m,n=m+2:=⟨n-2,by have:=h.n2;omega⟩;rw[(vh h.wo h.wl).1,dc,dc,show 4294967296^(m+2)=4294967296^m*4294967296*4294967296 by rfl,ye];grind
theorem Trial.pos {w v:List Nat}{n:Nat}(h:Trial w v n):4294967296*4294967296^(n-2)<=val (v.take n)/\0<val (v.take n):=by
 have a:0<4294967296^(n-2):=y7 (by decide)
 have:4294967296*4294967296^(n-2)<=val (v.take n):=by
  rw[h.v3];have h1:=h.hi;have:4294967296^(n-2) *4294967296<=4294967296^(n-2) *(dg v (n-1) *4294967296+dg v (n-2)):=zf _ (by omega);omega
 omega
theorem Trial.first {w v:List Nat}{n:Nat}(h:Trial w v n):val w/val (v.take n)<=(dg w n*4294967296+dg w (n-1))/dg v (n-1):=by
 have a:=h.hi;have key:=kn_gt (U:=val w) (V:=val (v.take n)) (P:=4294967296^(n-2) *4294967296) (ut:=dg w n*4294967296+dg w (n-1)) (vt:=dg v (n-1)) (q:=(dg w n*4294967296+dg w (n-1))/dg v (n-1)+1) ?_ ?_ h.pos.2 ?_;omega
 .rw[h.w3];exact aux1 (kh h.wo (n-2)) (cF h.wo (n-2))
 .rw[h.v3];grind
 exact aux0 _ (by omega)
theorem Trial.less {w v:List Nat}{n:Nat}(h:Trial w v n){q r:Nat}(a:q*dg v (n-1)+r=dg w n*4294967296+dg w (n-1))(b:r*4294967296+dg w (n-2)<q*dg v (n-2)):val w/val (v.take n)<q:=by
 refine kn_gt (P:=4294967296^(n-2)) (ut:=(dg w n*4294967296+dg w (n-1)) *4294967296+dg w (n-2)) (vt:=dg v (n-1) *4294967296+dg v (n-2)) ?_ ?_ h.pos.2 ?_
 .rw[h.w3];exact LC (kh h.wo (n-2))
 .rw[h.v3];grind
 grind
theorem Trial.qlt {w v:List Nat}{n:Nat}(h:Trial w v n):val w/val (v.take n)<4294967296:=(zm h.pos.2).2 h.lt
theorem Trial.end {w v:List Nat}{n:Nat}(h:Trial w v n){q r:Nat}(b:q*dg v (n-1)+r=dg w n*4294967296+dg w (n-1))(a:q<4294967296)(hr:4294967296<=r\/q*dg v (n-2)<=r*4294967296+dg w (n-2)):q<=val w/val (v.take n)+1:=by
 refine kn_le (P:=4294967296^(n-2)) (B:=4294967296) (ut:=(dg w n*4294967296+dg w (n-1)) *4294967296+dg w (n-2)) (vt:=dg v (n-1) *4294967296+dg v (n-2)) ?_ ?_ h.pos.1 h.pos.2 a ?_
 .rw[h.w3];grind
 .rw[h.v3];exact LC (kh h.vo (n-2))
 rw[<-b];exact aux3 (v8 a (cF h.vo (n-2))) hr
theorem Trial.first_le {w v:List Nat}{n:Nat}(h:Trial w v n):(dg w n*4294967296+dg w (n-1))/dg v (n-1)<=4294967297/\dg w n<=dg v (n-1):=by
 have a:=h.hi
 have h1:dg w n<=dg v (n-1):=by
  have b:=h.lt
  have c:val (v.take n)<(dg v (n-1)+1) *(4294967296^(n-1)):=by
   have:=dc v (n-1);rw[xt (by have:=h.n2;omega)]at this;rw[this,yX,vF,zx];have:=kh h.vo (n-1);omega
  have d:=(vh h.wo h.wl).1
  have e:4294967296^n=4294967296*4294967296^(n-1):=by
   obtain⟨m,rfl⟩:∃m,n=m+1:=⟨n-1,by have:=h.n2;omega⟩;grind
  by_cases f:dg w n<=dg v (n-1)
  omega
  .have h3:4294967296^n*(dg v (n-1)+1)<=4294967296^n*dg w n:=zf _ (by omega);grind[Nat.mul_assoc]
 have g:=cF h.wo (n-1);have:dg w n*4294967296+dg w (n-1)<4294967298*dg v (n-1):=by omega
 have:=(zm (show 0<dg v (n-1)by omega)).2 this;omega
def Old (U v Q:List Nat)(h:ab)(z:Frz):Prop:=
 (∃h0:ab,h=upd (upd (upd h0 4 (some (.row (Q.map u32) 1))) 3 (some (.row (v.map u32) 1))) 2 (some (.row (U.map u32) 1)))/\∃a:Frz,z=upd (upd (upd a 4 0) 3 0) 2 0
theorem Old.of {U v Q:List Nat}{h:ab}{z:Frz}(a:h 2=some (.row (U.map u32) 1))(h3:h 3=some (.row (v.map u32) 1))(b:h 4=some (.row (Q.map u32) 1))(c:z 2=0)(z3:z 3=0)(d:z 4=0):Old U v Q h z:=by
 refine⟨⟨h,?_⟩,z,?_⟩;simp_all[dY];simp_all[dY]
theorem Old.old {nx0:Nat}{U v Q:List Nat}{h:ab}{z:Frz}(a:h 2=some (.row (U.map u32) 1))(h3:h 3=some (.row (v.map u32) 1))(b:h 4=some (.row (Q.map u32) 1))(c:z 2=0)(z3:z 3=0)(d:z 4=0):Old U v Q (cz nx0 h) z:=
 Old.of (s8 a) (s8 h3) (s8 b) c z3 d
theorem UZ {w w' v:List Nat}{n q c b:Nat}(T:Trial w v n)(i:val w/val (v.take n)<=q)(j:q<=val w/val (v.take n)+1)(k:w'.length=n+1)(d:LOk w')(s:c<4294967296)(t:b<=1)
 (e:val (w'.take n)+q*val (v.take n)=val (w.take n)+4294967296^n*(b+c)):
 (c+b<=dg w n->q=val w/val (v.take n)/\val (w'.set n (dg w n-c-b))=val w%val (v.take n))/\
 (dg w n<c+b->q=val w/val (v.take n)+1/\dg w n+4294967296-c-b<4294967296/\val (w'.set n (dg w n+4294967296-c-b))+q*val (v.take n)=val w+4294967296^(n+1)):=by
 have f:=(vh T.wo T.wl).1
 have a:∀x,val (w'.set n x)=val (w'.take n)+4294967296^n*x:=by
  grind[oB,List.take_of_length_le]
 have l:=T.pos.2;have m:=kh d n;generalize val (v.take n)=V at*;constructor
 .intro o
  have u:val (w'.set n (dg w n-c-b))+q*V=val w:=by
   rw[a,f];have:4294967296^n*(dg w n-c-b)+4294967296^n*(b+c)=4294967296^n*dg w n:=by rw[<-yP];grind
   omega
  have g:q<=val w/V:=(yq l).2 (by omega);grind[Nat.div_add_mod]
 intro p
 have h:val w<q*V:=by
  have h1:4294967296^n*(dg w n+1)<=4294967296^n*(b+c):=zf _ (by omega);grind
 have r:q≠val w/V:=by
  have:=yz (val w) V;grind
 refine⟨by omega,by omega,?_⟩;rw[a,f,ye];have:4294967296^n*(dg w n+4294967296-c-b)+4294967296^n*(b+c)=4294967296^n*dg w n+4294967296^n*4294967296:=by rw[<-yP,<-yP];congr 1;omega
 omega
theorem Py {w a d v:List Nat}{n q c:Nat}(T:Trial w v n)(m:q=val w/val (v.take n)+1)(h1:a.length=n+1)(f:LOk a)(t:d.length=n+1)(g:LOk d)(u:c<=1)(x:dg d n=dg a n)
 (i:val a+q*val (v.take n)=val w+4294967296^(n+1)) (j:val (d.take n)+4294967296^n*c=val (a.take n)+val (v.take n)):
 val (d.set n ((dg a n+c)%4294967296))=val w%val (v.take n):=by
 have y:=(vh f h1).1
 have k:val (d.set n ((dg a n+c)%4294967296))=val (d.take n)+4294967296^n*((dg a n+c)%4294967296):=by
  grind[oB,List.take_of_length_le]
 have o:=kh g n;have p:=yH (val w) (val (v.take n));generalize val (v.take n)=V at*;generalize val w/V=r at*;subst m;rw[yX,vF,zx r]at i;have s:=cF f n;have b:=qZ (4294967296^n) (dg a n+c);rw[yP (4294967296^n) (dg a n) c,<-ye]at b;have e:(dg a n+c)/4294967296=0\/(dg a n+c)/4294967296=1:=by omega
 have l:4294967296^n*((dg a n+c)%4294967296)+4294967296^n<=4294967296^(n+1):=by
  exact zf _ (zI _ (by decide))
 rcases e with h|h
 .rw[h,Nat.mul_zero]at b;omega
 rw[h,wn]at b;omega
theorem US {x y b:Nat}{d:Int}(a:x<4294967296)(e:y<4294967296)(f:b<=1)(g:d=((x:Int)-y-b)%18446744073709551616):
 ∃u c:Nat,IntKind.u32.wrap d=u/\d=((d.toNat:Nat):Int)/\d.toNat/2^63=c/\u<4294967296/\c<=1/\u+(b+y)=x+4294967296*c:=by
 rw[Af];refine⟨(d%4294967296).toNat,d.toNat/2^63,by omega,by omega,rfl,by omega,by omega,by omega⟩
theorem Yo (e w a v Q:List Nat)(n:Nat)(T:Trial w v n)(hn:n<=2000000000){h:ab}{z:Frz}{K:D->ab->Frz->Nat->Prop}(l:Old (e++w++a) v Q h z)
 (hk:∀(w':List Nat) (h':ab) (z':Frz) (R:Nat),(R=356\/R=401)->w'.length=n+1->LOk w'->val w'=val w%val (v.take n)->Old (e++w'++a) v Q h' z'->K (.int .u32 (val w/val (v.take n):Nat)) h' z' R):
 wpM TT (shr TT 5) 206 [.code AT.1.code] .normal (enter [.ref 2 e.length (n+1),.ref 3 0 n]) h z 206 (bB AT.1 K):=by
 obtain⟨⟨h0,rfl⟩,z0,rfl⟩:=l;have i8:=T.n2;have c5:=T.wl;have i9:=T.vl;have j0:=T.hi;have a5:=T.qlt;have j1:=cF T.vo (n-1);have c6:=cF T.vo (n-2);have c7:=cF T.wo n;have c8:=cF T.wo (n-1);have c9:=cF T.wo (n-2);have a6:=T.first_le;have a7:IntKind.i64.wrap ((n:Int)-1)=((n-1:Nat):Int):=by grind[wrap64]
 have a8:IntKind.i64.wrap ((n:Int)-2)=((n-2:Nat):Int):=by grind[wrap64]
 have c0:IntKind.u64.wrap (dg w n:Int)=(dg w n:Int):=bq (by omega);have c1:IntKind.u64.wrap (dg w (n-1):Int)=(dg w (n-1):Int):=bq (by omega);have c2:IntKind.u64.wrap (dg w (n-2):Int)=(dg w (n-2):Int):=bq (by omega);have d1:IntKind.u64.wrap (dg v (n-1):Int)=(dg v (n-1):Int):=bq (by omega);have d2:IntKind.u64.wrap (dg v (n-2):Int)=(dg v (n-2):Int):=bq (by omega);refine gg rfl (aA n rfl rfl rfl rfl rfl (by omega) ?_);refine gg rfl (ov e w a n rfl rfl rfl (by omega) ?_);refine gg rfl (kJ (dg w n) 32 rfl rfl c0 rfl (by decide) (bq (by omega)) ?_);refine gg rfl (aA (n-1) rfl rfl rfl rfl a7 (by omega) ?_);refine gg rfl (ov e w a (n-1) rfl rfl rfl (by omega) ?_);refine gg rfl ?_;rw[c1,A5 c7 c8];refine aA (n-1) rfl rfl rfl rfl a7 (by omega) ?_;refine gg rfl (nC v (n-1) rfl (zC _) rfl (by omega) ?_);refine gg rfl ?_;rw[d1];generalize I:dg w n*4294967296+dg w (n-1)=p;rw[I]at a6;have j3:p<18446744073709551616:=by omega
 have a9:=a6.1;refine ko p (dg v (n-1)) rfl rfl rfl rfl (by omega) (bq (by omega)) ?_;refine gg rfl (Cc p (dg v (n-1)) rfl rfl rfl rfl (by omega) ?_);refine gg rfl ?_
 refine bO (S:=fun x:Nat×Nat=>([.ref 2 e.length (n+1),.ref 3 0 n,aa n,.int .u64 (dg v (n-1)),.int .u64 x.1,.int .u64 x.2],none::nn5,zz6))
  (O:=fun _ J L=>Old (e++w++a) v Q J L)
  (C:=fun x=>x.1*dg v (n-1)+x.2=p/\val w/val (v.take n)<=x.1/\x.1<=4294967297/\x.2<8589934592) (m:=fun x=>x.1) (p/dg v (n-1),p%dg v (n-1))
  ⟨by simp[zx,yH],by rw[<-I];exact T.first,a9,by have:=zI p (show 0<dg v (n-1)by omega);omega⟩ (by omega) ?_ ?_
 .exact ba rfl ⟨ae bG _,ae bG _,tr⟩ ⟨by rfl,Old.old rfl rfl rfl rfl rfl rfl⟩
 rintro⟨q,r⟩ ⟨b0,U,b1,hr⟩ J L l N M;obtain⟨⟨h1,rfl⟩,z1,rfl⟩:=l;simp only at b0 U b1 hr
 have next:q≠0->r<4294967296->val w/val (v.take n)<q->∀{t:ai} {h:ab} {z:Frz} {nx:Nat},(bz 206 [(0,0),(1,0),(5,0),(7,0),(8,0),(9,0)] t h z nx fun h z kp=>kp=([.ref 2 e.length (n+1),.ref 3 0 n,aa n,.int .u64 (dg v (n-1)),.int .u64 (q-1:Nat),.int .u64 (r+dg v (n-1):Nat)],none::nn5,zz6)/\Old (e++w++a) v Q (cz 206 h) z)->N t h z nx:=by
  intro b2 j4 j5 t h z nx e0;refine M (q-1,r+dg v (n-1)) ⟨?_,by omega,by omega,by omega⟩ (by omega) e0;obtain⟨k,rfl⟩:∃k,q=k+1:=⟨q-1,by omega⟩;grind
 clear M;have s1:q≠0->IntKind.u64.wrap ((q:Int)-1)=((q-1:Nat):Int):=fun _=>by grind[eI]
 have s2:IntKind.u64.wrap ((r:Int)+(dg v (n-1):Int))=((r+dg v (n-1):Nat):Int):=by grind[eI]
 have e3:q<4294967296->q<=val w/val (v.take n)+1->True:=fun _ _=>trivial;refine gg rfl (au rfl (fun V=>?_) (fun V=>?_));rw[ad]at V;simp only at V;refine gg rfl (au rfl (fun g2=>?_) (fun g2=>?_))
 .rw[bk]at g2;refine gg rfl (ak rfl (gE rfl (next (by omega) (by omega) (by omega) (ba rfl ⟨ae bG _,ae bG _,tr⟩ ⟨?_,Old.old rfl rfl rfl rfl rfl rfl⟩))));grind[aa]
 rw[aW]at g2;simp only at g2;have B:q<4294967296:=by omega
 have e4:=v8 B c6
 have em:IntKind.u64.wrap ((q:Int) *IntKind.u64.wrap (dg v (n-2):Int))=((q*dg v (n-2):Nat):Int):=by
  rw[d2,show(q:Int) *(dg v (n-2):Int)=((q*dg v (n-2):Nat):Int)by simp];exact bq (by omega)
 refine gg rfl (aA (n-2) rfl rfl rfl rfl a8 (by omega) ?_);refine gg rfl (nC v (n-2) rfl (zC _) rfl (by omega) ?_);refine gg rfl (kJ r 32 rfl rfl rfl rfl (by decide) (bq (by omega)) ?_);refine gg rfl (aA (n-2) rfl rfl rfl rfl a8 (by omega) ?_);refine gg rfl (ov e w a (n-2) rfl rfl rfl (by omega) ?_);refine gg rfl ?_;rw[c2,A5 (by omega) c9,em];refine an rfl (fun g3=>?_) (fun g3=>?_)
 .rw[ad]at g3;have e6:r*4294967296+dg w (n-2)<q*dg v (n-2):=by omega
  have b2:q≠0:=by grind
  refine gE rfl (next b2 (by omega) (T.less (by omega) e6) (ba rfl ⟨ae bG _,ae bG _,tr⟩ ⟨?_,Old.old rfl rfl rfl rfl rfl rfl⟩));grind[aa]
 rw[af]at g3;have b4:=T.end (q:=q) (r:=r) (by omega) B (.inr (by omega));refine gE rfl (gg rfl ?_);rotate_left;rw[af]at V;simp only at V
 have B:q<4294967296:=by
  have h6:q*dg v (n-1)<4294967296*dg v (n-1):=by omega
  exact Nat.lt_of_mul_lt_mul_right h6
 have b4:=T.end (q:=q) (r:=r) (by omega) B (.inl (by omega));refine gg rfl (aj rfl (gE rfl (gg rfl ?_)))
 all_goals
  refine bO (S:=fun x:Nat×List Nat×Nat×Nat=>([.ref 2 e.length (n+1),.ref 3 0 n,aa n,.int .u64 q,.int .u64 x.2.2.1,.int .u64 x.2.2.2,.ref 3 0 n,aa n,aa x.1],none::nn8,zz9))
   (O:=fun x J L=>Old (e++x.2.1++a) v Q J L)
   (C:=fun x=>x.1<=n/\x.2.1.length=n+1/\LOk x.2.1/\x.2.2.1<4294967296/\x.2.2.2<=1/\val (x.2.1.take x.1)+q*val (v.take x.1)=val (w.take x.1)+4294967296^x.1*(x.2.2.2+x.2.2.1)/\∀j,x.1<=j->dg x.2.1 j=dg w j) (m:=fun x=>n-x.1) (0,w,0,0)
   ⟨zB _,c5,T.wo,by simp,by simp,by simp[val],fun j _=>rfl⟩ (by simp only;omega) ?_ ?_
  .exact ba rfl ⟨ae bG _,ae bG _,ae bG _,tr⟩ ⟨by simp[aa],Old.old rfl rfl rfl rfl rfl rfl⟩
  rintro⟨k,w',c,b⟩ ⟨e7,E,y,hc,hb,F,o⟩ J L l N M;obtain⟨⟨h2,rfl⟩,z2,rfl⟩:=l;simp only at e7 E y hc hb F o;refine jC rfl (fun e1=>?_) (fun e1=>?_)
  .rw[ad]at e1;simp only at e1;have b6:k<n:=by omega
   have e9:=cF T.vo k;have g0:=cF y k;have e4:=v8 B e9;have g7:=wS (n:=k);have ee:((q*dg v k:Nat):Int)=(q:Int) *(dg v k:Int):=by simp
   have ec:IntKind.u64.wrap ((c:Int)+IntKind.u64.wrap ((q:Int) *IntKind.u64.wrap (dg v k:Int)))=((c+q*dg v k:Nat):Int):=by
    rw[bq (n:=dg v k) (by omega),<-ee,bq (n:=q*dg v k) (by omega)];simp only[eI];omega
   refine gg rfl (aA k rfl rfl rfl rfl rfl b6 (gg rfl (nC v k rfl (zC _) rfl (by omega) ?_)));refine gg rfl ?_;rw[ec];refine aA k rfl rfl rfl rfl rfl (by omega) ?_;refine gg rfl (ov e w' a k rfl rfl rfl (by omega) ?_);refine gg rfl ?_;rw[dP];obtain⟨u,b',V,g2,g3,g4,g5,g6⟩:=US (d:=IntKind.u64.wrap (IntKind.u64.wrap (IntKind.u64.wrap (dg w' k:Int)-IntKind.u64.wrap (((c+q*dg v k)%4294967296:Nat):Int))-(b:Int))) g0 (zI (c+q*dg v k) (by decide)) hb (by simp only[eI];omega);generalize IntKind.u64.wrap (IntKind.u64.wrap (IntKind.u64.wrap (dg w' k:Int)-IntKind.u64.wrap (((c+q*dg v k)%4294967296:Nat):Int))-(b:Int))=d at*;rw[V];refine aA k rfl rfl rfl rfl rfl (by omega) ?_;refine gg rfl (ur e w' a k u rfl rfl rfl rfl rfl rfl (by omega) ?_);refine gg rfl (bH d.toNat 63 rfl rfl g2 rfl (by decide) ?_);rw[g3];refine gg rfl (bH (c+q*dg v k) 32 rfl rfl rfl rfl (by decide) ?_);refine gE rfl (M (k+1,w'.set k u,(c+q*dg v k)/2^32,b') ⟨b6,by simp[E],y.set _ g4,by simp only;omega,g5,?_,?_⟩ (by simp only;omega) (ba rfl ⟨ae bG _,ae bG _,ae bG _,tr⟩ ⟨by simp[aa,g7],Old.old rfl rfl rfl rfl rfl rfl⟩))
   .simp only;rw[oB (by omega),dc v,dc w,show(2:Nat)^32=4294967296 by decide,ye];have hs:=o k (zD _);rw[hs]at g6;have k3:=yH (c+q*dg v k) 4294967296;generalize (c+q*dg v k)/4294967296=c' at*;generalize (c+q*dg v k)%4294967296=lo at*;generalize 4294967296^k=P at*
    have e5:P*u+P*(q*dg v k)+P*(b+c)=P*dg w k+P*(4294967296*(b'+c')):=by
     rw[<-yP,<-yP,<-yP];congr 1;omega
    rw[yP q,Nat.mul_left_comm q P,yi P 4294967296];omega
   intro j hj;simp only at hj⊢;rw[fC,eE];exact o j (by omega)
  rw[af]at e1;simp only at e1;obtain rfl:k=n:=by omega
  clear M;obtain⟨g9,h4⟩:=UZ T U b4 E y hc hb F;have W:=o k (zD _);have cn:IntKind.u64.wrap (dg w' k:Int)=(dg w' k:Int):=bq (by rw[W];omega);refine gE rfl (gg rfl (aA k rfl rfl rfl rfl rfl (by omega) ?_));refine gg rfl (ov e w' a k rfl rfl rfl (by omega) ?_);refine gg rfl ?_;by_cases X:c+b<=dg w k
  .obtain⟨f1,f2⟩:=g9 X;have ed:IntKind.u64.wrap (IntKind.u64.wrap (IntKind.u64.wrap (dg w' k:Int)-(c:Int))-(b:Int))=((dg w k-c-b:Nat):Int):=by rw[W];simp only[eI];omega
   have Y:IntKind.u32.wrap ((dg w k-c-b:Nat):Int)=((dg w k-c-b:Nat):Int):=by rw[dP];omega
   have h7:IntKind.u32.wrap (q:Int)=(q:Int):=by rw[dP];omega
   rw[ed,Y];refine aA k rfl rfl rfl rfl rfl (by omega) ?_;refine gg rfl (ur e w' a k (dg w k-c-b) rfl rfl rfl rfl rfl rfl (by omega) ?_);refine gg rfl (bH (dg w k-c-b) 63 rfl rfl rfl rfl (by decide) ?_);refine jC rfl (fun y1=>?_) (fun y1=>?_)
   .refine gg rfl ?_;rw[h7]
    have h8:∀h' z',Old (e++w'.set k (dg w k-c-b)++a) v Q h' z'->K (.int .u32 q) h' z' 356:=fun h' z' h9=>by
     rw[f1];exact hk (w'.set k (dg w k-c-b)) h' z' 356 (.inl rfl) (by simp[E]) (y.set _ (by omega)) f2 h9
    exact bd rfl rfl (h8 _ _ (Old.of rfl rfl rfl rfl rfl rfl))
   rw[dG]at y1;exact absurd (by omega) y1
  obtain⟨f1,f0,f2⟩:=h4 (by omega);have ed:IntKind.u64.wrap (IntKind.u64.wrap (IntKind.u64.wrap (dg w' k:Int)-(c:Int))-(b:Int))=((18446744073709551616+dg w k-c-b:Nat):Int):=by rw[W];simp only[eI];omega
  have Y:IntKind.u32.wrap ((18446744073709551616+dg w k-c-b:Nat):Int)=((dg w k+4294967296-c-b:Nat):Int):=by rw[dP];omega
  rw[ed,Y];refine aA k rfl rfl rfl rfl rfl (by omega) ?_;refine gg rfl (ur e w' a k (dg w k+4294967296-c-b) rfl rfl rfl rfl rfl rfl (by omega) ?_);refine gg rfl (bH (18446744073709551616+dg w k-c-b) 63 rfl rfl rfl rfl (by decide) ?_);refine jC rfl (fun y1=>?_) (fun y1=>?_)
  .rw[co]at y1;omega
  refine gg rfl ?_;have b7:(w'.set k (dg w k+4294967296-c-b)).length=k+1:=by simp[E]
  have Z:LOk (w'.set k (dg w k+4294967296-c-b)):=y.set _ f0;generalize w'.set k (dg w k+4294967296-c-b)=x1 at*
  refine bO (S:=fun x:Nat×List Nat×Nat=>([.ref 2 e.length (k+1),aa k,.int .u64 q,.int .u64 x.2.2,.ref 3 0 k,aa k,aa x.1],none::nn6,zz7))
   (O:=fun x J L=>Old (e++x.2.1++a) v Q J L)
   (C:=fun x=>x.1<=k/\x.2.1.length=k+1/\LOk x.2.1/\x.2.2<=1/\val (x.2.1.take x.1)+4294967296^x.1*x.2.2=val (x1.take x.1)+val (v.take x.1)/\∀j,x.1<=j->dg x.2.1 j=dg x1 j) (m:=fun x=>k-x.1) (0,x1,0)
   ⟨zB _,b7,Z,by simp,by simp[val],fun j _=>rfl⟩ (by simp only;omega) ?_ ?_
  .exact ba rfl ⟨ae bG _,ae bG _,tr⟩ ⟨by simp[aa],Old.old rfl rfl rfl rfl rfl rfl⟩
  rintro⟨i,A,f⟩ ⟨i0,H,G,b8,s,g⟩ J L l N M;obtain⟨⟨h3,rfl⟩,z3,rfl⟩:=l;simp only at i0 H G b8 s g;refine jC rfl (fun e2=>?_) (fun e2=>?_)
  .rw[ad]at e2;simp only at e2;have c3:i<k:=by omega
   have k5:=cF T.vo i;have k6:=cF G i;have i1:=wS (n:=i);have es:IntKind.u64.wrap ((f:Int)+IntKind.u64.wrap (IntKind.u64.wrap (dg A i:Int)+IntKind.u64.wrap (dg v i:Int)))=((f+dg A i+dg v i:Nat):Int):=by simp only[eI];omega
   refine gg rfl (aA i rfl rfl rfl rfl rfl c3 (gg rfl (nC v i rfl (zC _) rfl (by omega) ?_)));refine gg rfl (aA i rfl rfl rfl rfl rfl (by omega) ?_);refine gg rfl (ov e A a i rfl rfl rfl (by omega) ?_);refine gg rfl ?_;rw[es,dP];refine aA i rfl rfl rfl rfl rfl (by omega) ?_;refine gg rfl (ur e A a i ((f+dg A i+dg v i)%4294967296) rfl rfl rfl rfl rfl rfl (by omega) ?_);refine gg rfl (bH (f+dg A i+dg v i) 32 rfl rfl rfl rfl (by decide) ?_);refine gE rfl (M (i+1,A.set i ((f+dg A i+dg v i)%4294967296),(f+dg A i+dg v i)/2^32) ⟨c3,by simp[H],G.set _ (zI _ (by decide)),by simp only;omega,?_,?_⟩ (by simp only;omega) (ba rfl ⟨ae bG _,ae bG _,tr⟩ ⟨by simp[aa,i1],Old.old rfl rfl rfl rfl rfl rfl⟩))
   .simp only;rw[oB (by omega),dc x1,dc v,show(2:Nat)^32=4294967296 by decide,ye,yG,qZ,yP,yP,g i (zD _)];omega
   intro j hj;simp only at hj⊢;rw[fC,eE];exact g j (by omega)
  rw[af]at e2;simp only at e2;obtain rfl:i=k:=by omega
  clear M;have c4:=g i (zD _);have k7:=cF Z i;have fin:=Py T f1 b7 Z H G b8 c4 f2 s;have i2:IntKind.u32.wrap (f:Int)=(f:Int):=by rw[dP];omega
  have i3:IntKind.u32.wrap ((dg A i:Int)+(f:Int))=(((dg x1 i+f)%4294967296:Nat):Int):=by rw[c4,Af];omega
  have i4:IntKind.u32.wrap (IntKind.u64.wrap ((q:Int)-1))=((val w/val (v.take i):Nat):Int):=by
   have a1:=f1;have a2:=a5;generalize val w/val (v.take i)=Qt at a1 a2⊢;rw[eI,Af];clear F s b0 U b1 a9 f2 fin;omega
  refine gE rfl (gg rfl (aA i rfl rfl rfl rfl rfl (by omega) ?_));refine gg rfl (ov e A a i rfl rfl rfl (by omega) ?_);refine gg rfl ?_;rw[i2,i3];refine aA i rfl rfl rfl rfl rfl (by omega) ?_;refine gg rfl (ur e A a i ((dg x1 i+f)%4294967296) rfl rfl rfl rfl rfl rfl (by omega) ?_);refine gg rfl ?_;rw[i4];exact bd rfl rfl (hk (A.set i ((dg x1 i+f)%4294967296)) _ _ 401 (.inr rfl) (by simp[H]) (G.set _ (zI _ (by decide))) fin (Old.of rfl rfl rfl rfl rfl rfl))
theorem H7 {U:List Nat}{i n:Nat}(h:i+n+1<=U.length):U=U.take i++(U.drop i).take (n+1)++U.drop (i+n+1)/\(U.take i).length=i/\((U.drop i).take (n+1)).length=n+1:=by
 grind[List.drop_drop,List.take_append_drop]
theorem CN {l:List Nat}{n:Nat}(h:val l<4294967296^n):val (l.drop n)=0/\val (l.take n)=val l:=by
 have:=lQ l n
 have a:val (l.drop n)=0:=by
  by_cases h0:val (l.drop n)=0
  omega
  .have:4294967296^n*1<=4294967296^n*val (l.drop n):=zf _ (by omega);omega
 grind
structure Dv (r v U Q:List Nat)(n m j:Nat):Prop where
 jm:j<=m
 ul:U.length=m+n
 uo:LOk U
 ql:Q.length=m
 qo:LOk Q
 lt:val (U.drop j)<val (v.take n)
 eq:val r=val U+val (v.take n) *(4294967296^j*val (Q.drop j))
theorem Dv.trial {r v U Q:List Nat}{n m j:Nat}(h:Dv r v U Q n m (j+1))(a:2<=n)(vo:LOk v)(b:n<=v.length)(hi:2147483648<=dg v (n-1)):
 Trial ((U.drop j).take (n+1)) v n/\val ((U.drop j).take (n+1))=val (U.drop j):=by
 have f:=h.ul;have g:=h.jm;have i:=kh vo n;have c:=h.lt
 have k:val (U.drop j)<4294967296*val (v.take n):=by
  rw[lw];have:=cF h.uo j;omega
 have d:val (U.drop j)<4294967296^(n+1):=by
  omega
 have e:=(CN d).2;exact⟨⟨a,by grind,(h.uo.drop j).take _,vo,b,hi,by omega⟩,e⟩
theorem Dv.next {r v U Q w':List Nat}{n m j:Nat}(h:Dv r v U Q n m (j+1))(T:Trial ((U.drop j).take (n+1)) v n)(e:val ((U.drop j).take (n+1))=val (U.drop j))(f:w'.length=n+1)(c:LOk w')(a:val w'=val ((U.drop j).take (n+1))%val (v.take n)):
 Dv r v (U.take j++w'++U.drop (j+n+1)) (Q.set j (val ((U.drop j).take (n+1))/val (v.take n))) n m j:=by
 have p:=h.ul;have q:=h.jm;have b:=T.pos.2;have g:=T.qlt;obtain⟨s,k,t⟩:=H7 (U:=U) (i:=j) (n:=n) (by omega)
 have d:val (U.drop (j+n+1))=0:=by
  have:=lQ (U.drop j) (n+1);grind[Nat.mul_eq_zero]
 refine⟨by omega,by grind,((h.uo.take j).append c).append (h.uo.drop _),by simp[h.ql],h.qo.set _ g,?_,?_⟩
 .rw[z7,List.drop_left' k,val_append,d,a];have:=zI (val ((U.drop j).take (n+1))) b;omega
 have l:=h.eq
 have o:val (U.take j++w'++U.drop (j+n+1))=val (U.take j)+4294967296^j*val w':=by
  grind[val_append]
 have u:val U=val (U.take j)+4294967296^j*val (U.drop j):=lQ U j;rw[o,lw,fC,ve ⟨rfl,by rw[h.ql];omega⟩,wO (by omega),a,e];grind[Nat.div_add_mod]
theorem AJ (a b:List Nat) [ha:LOk a] [hb:LOk b](e0:a.length<=900000000)(e7:b.length<=900000000):
 PU 206 [nat a,nat b]=some (if val b=0 then .tup [nat [],nat [],.bool false]else .tup [nat (ax (val a/val b)),nat (ax (val a%val b)),.bool true]):=by
 have O:val (ax (val a))=val a:=bX _;have P:val (ax (val b))=val b:=bX _;have b5:=nn ha;have b6:=nn hb;refine PS rfl (jA rfl (ff a (by omega)) ?_);refine jA rfl (ff b (by omega)) ?_;refine gg rfl ?_;have e8:LOk (ax (val a)):=cE _;have k:LOk (ax (val b)):=cE _;have R:(ax (val b)).length=0↔val b=0:=by simp[X3]
 have o:val b≠0->dg (ax (val b)) ((ax (val b)).length-1)≠0:=QQ;have f:val b<=val a->(ax (val b)).length<=(ax (val a)).length:=fun h=>bT.2 (zq h (bT.1 (zD _)));generalize ax (val a)=A at*;generalize ax (val b)=B at*;rw[zA];refine an rfl (fun h1=>?_) (fun h1=>?_)
 .rw[co]at h1;refine jF rfl ?_;rw[ve (R.1 (by omega))];rfl
 rw[dG]at h1;have u:val b≠0:=fun h=>h1 (by omega);rw[vd u];refine jA rfl (CJ A B (by omega) (by omega)) ?_;refine gg rfl ?_;rw[O,P];refine an rfl (fun V=>?_) (fun V=>?_)
 .rw[ad]at V
  have c:val a<val b:=by
   grind[br]
  refine jA rfl (Al A (by omega)) ?_;refine jF rfl ?_;rw[xf c,zU c,O];rfl
 rw[af]at V
 have W:val b<=val a:=by
  grind[br]
 have f:=f W;refine gg rfl ?_;rw[zA];refine an rfl (fun h3=>?_) (fun h3=>?_)
 .rw[co]at h3;have e9:B.length=1:=by omega
  have hd:=cF k 0
  have ev:val B=dg B 0:=by
   have:=dc B 0;grind[val]
  have X:dg B 0≠0:=by omega
  have w0:IntKind.u64.wrap ((val A%dg B 0:Nat):Int)=((val A%dg B 0:Nat):Int):=bq (by have:=zI (val A) (show 0<dg B 0 by omega);omega);refine jX 0 rfl rfl (eX (by omega)) rfl ?_;refine jA rfl (UU A (dg B 0) (by omega) X hd) ?_;refine gg rfl ?_;rw[w0];refine aB rfl rfl (Bi (val A%dg B 0) (by have:=zI (val A) (show 0<dg B 0 by omega);omega)) ?_;refine jF rfl ?_;rw[<-P,<-O,ev];rfl
 rw[dG]at h3;have Y:2<=B.length:=by omega
 generalize hn:B.length=n at*;have Z:IntKind.i64.wrap ((n:Int)-1)=((n-1:Nat):Int):=by grind[wrap64]
 obtain⟨s,a0,p,g3,a1⟩:=T4 (dg B (n-1)) (cF k _) (o u);refine gg rfl ?_;rw[zA,hn];refine cg (n-1) rfl rfl Z (eX (by omega)) rfl ?_;refine jA rfl a0 (gg rfl (cf rfl rfl (left1 A s (by omega) p tr fun r h' z' hr a2 a3 a4 a5 _=>?_)));refine gg rfl (cf rfl rfl (left2 B s (by omega) p r ⟨a4,a5⟩ fun v w y hv q E b8 b9 g=>?_));obtain⟨h0,rfl⟩:∃h0:ab,w=upd (upd h0 80 (some (.row (r.map u32) 1))) 131 (some (.row (v.map u32) 1)):=⟨w,by simp_all[dY]⟩;obtain⟨z0,rfl⟩:∃z0:Frz,y=upd (upd z0 80 0) 131 0:=⟨y,by simp_all[dY]⟩;rw[hn]at hv;refine gg rfl (fi n rfl rfl rfl ⟨_,_,rfl,rfl⟩ (by omega) ?_);refine gg rfl ?_;have wm:IntKind.i64.wrap (((A.length+1:Nat):Int)-(n:Int))=((A.length+1-n:Nat):Int):=by grind[wrap64]
 rw[wm];refine eu (A.length+1-n) rfl rfl rfl (by grind[aK]) ?_;rw[qQ];refine gg rfl ?_;have g6:=ww (x:=((A.length+1-n:Nat):Int)-1);generalize hm:A.length+1-n=m at*;have a6:A.length+1=m+n:=by omega
 rw[a6]at hr
 have a7:val (v.take n)=val b*2^s:=by
  have h5:val v<4294967296^n:=by
   rw[E];have K:=dc B (n-1);have e2:=kh k (n-1);have e3:val B<4294967296^(n-1) *(dg B (n-1)+1):=by grind
   have e4:4294967296^n=4294967296^(n-1) *4294967296:=by rw[<-ye];grind
   calc val B*2^s<4294967296^(n-1) *(dg B (n-1)+1) *2^s:=xW e3 (yk s)
    _=4294967296^(n-1) *((dg B (n-1)+1) *2^s):=yi _ _ _
    _<=4294967296^(n-1) *4294967296:=zf _ a1
    _=4294967296^n:=e4.symm
  simp_all[CN]
 have t:2147483648<=dg v (n-1):=by
  rw[SB q,E];have K:=dc B (n-1);rw[xt (by omega),zZ (by omega)]at K
  have e2:dg B (n-1) *2^s<=val B*2^s/4294967296^(n-1):=by
   rw[yq (y7 (by decide)),K,Nat.mul_right_comm];grind
  have e3:val B*2^s/4294967296^(n-1)<4294967296:=by
   rw[zm (y7 (by decide)),zx 4294967296,<-ye,show(n-1).succ=n by omega,P,<-a7];simp[kh]
  omega
 have e:Dv r v r (List.replicate m 0) n m m:=by
  refine⟨zD _,hr,a2,by simp,oq _,?_,by simp[val]⟩;have K:=lQ r m
  have e2:val r<4294967296^m*(4294967296^(n-1) *2^s):=by
   rw[a3,<-yi,<-yn,show m+(n-1)=A.length by omega];simp[gT,yk]
  have e3:val (r.drop m)<4294967296^(n-1) *2^s:=by
   refine wh (a:=4294967296^m) ?_;omega
  have e4:4294967296^(n-1) *dg v (n-1)<=val (v.take n):=by
   have:=dc v (n-1);grind
  have e5:2^s<=2147483648:=by grind
  have e6:4294967296^(n-1) *2^s<=4294967296^(n-1) *dg v (n-1):=zf _ (by omega);omega
 refine aw (S:=fun x:Nat×List Nat×List Nat=>([aa n,aa s,.ref 2 0 (m+n),.ref 3 0 n,.ref 4 0 m,aa ((x.1:Int)-1)],[none,none,some (.row (x.2.1.map u32) 1),some (.row (v.map u32) 1),some (.row (x.2.2.map u32) 1),none],zz6))
  (C:=fun x=>Dv r v x.2.1 x.2.2 n m x.1) (m:=fun x=>x.1) (m,r,List.replicate m 0) e (by omega) ?_ ?_
 .exact ah rfl ⟨ae bG _,ae bG _,ae bG _,tr⟩ (by grind[aa])
 rintro⟨j,U,Q⟩ d N hN;simp only at d;have g7:=d.ul;have F:=d.ql;have g8:=d.jm;refine jC rfl (fun L=>?_) (fun L=>?_)
 .rw[bk]at L;simp only at L;obtain⟨i,rfl⟩:∃i,j=i+1:=⟨j-1,by omega⟩;obtain⟨T,hT⟩:=d.trial Y q (by omega) t;obtain⟨w1,w2,w3⟩:=H7 (U:=U) (i:=i) (n:=n) (by omega);have ei:((i+1:Nat):Int)-1=(i:Int):=by omega
  have wi:IntKind.i64.wrap (IntKind.i64.wrap ((i:Int)+(n:Int))+1)=((i+n+1:Nat):Int):=by grind[wrap64]
  refine gg rfl ?_;rw[ei];refine dR i (i+n+1) rfl rfl rfl ⟨_,_,rfl,rfl⟩ ⟨_,_,rfl,wi⟩ (by omega) ?_
  have a9:(if i=0 then D.ref 2 0 (i+n+1)else if i=i+n+1 then D.lst []else D.ref 2 (0+i) (i+n+1-i))=D.ref 2 (U.take i).length (n+1):=by
   grind
  rw[a9];refine gg rfl (cf rfl rfl (Yo (U.take i) ((U.drop i).take (n+1)) (U.drop (i+n+1)) v Q n T (by omega) (Old.of (by rw[<-w1];rfl) rfl rfl rfl rfl rfl) fun w' h' z' h8 b0 b1 b2 b3 g=>?_));obtain⟨⟨h1,rfl⟩,z1,rfl⟩:=g;have G:=d.next T hT b1 b2 b3;generalize U.take i++w'++U.drop (i+n+1)=U' at*;have hq:=T.qlt;generalize val ((U.drop i).take (n+1))/val (v.take n)=M at*;have wj:=ww (x:=(i:Int)-1);rcases b0 with rfl|rfl
  .refine aA i rfl rfl rfl rfl rfl (by omega) ?_;refine ip Q i M rfl rfl (zC _) rfl rfl (zB _) (by omega) ?_;exact gE rfl (hN (i,U',Q.set i M) G (by simp) (ah rfl ⟨ae bG _,ae bG _,ae bG _,tr⟩ (by grind[aa])))
  refine aA i rfl rfl rfl rfl rfl (by omega) ?_;refine ip Q i M rfl rfl (zC _) rfl rfl (zB _) (by omega) ?_;exact gE rfl (hN (i,U',Q.set i M) G (by simp) (ah rfl ⟨ae bG _,ae bG _,ae bG _,tr⟩ (by grind[aa])))
 rw[aW]at L;obtain rfl:j=0:=by omega
 have H:=d.eq;have c:=d.lt;simp at H c;have hU:val U<4294967296^n:=y5 c (kh q n);have h9:=(CN hU).2;have I:0<val (v.take n):=by omega
 have hQ:val Q=val a/val b:=by
  have:val Q=val r/val (v.take n):=by rw[H,xa _ _ I,xf c,zC]
  grind[Nat.mul_div_mul_right]
 have hR:val (U.take n)/2^s=val a%val b:=by
  grind[Nat.add_mul_mod_self_left,Nat.mod_eq_of_lt,Nat.mul_mod_mul_right,Nat.mul_div_cancel]
 have i2:=d.qo;have i3:LOk (U.take n):=d.uo.take n;have hp:=ff Q (by omega);rw[hQ]at hp;have b4:=Y8 (U.take n) s (by grind) p;rw[hR]at b4;have J:D.lst ((U.map u32).take n)=nat (U.take n):=by simp[nat]
 refine gE rfl (gg rfl (lr rfl rfl ⟨nw (l:=Q) F.symm,tr⟩ (by rw[oT (l:=Q) F.symm];exact hp) fun z=>?_));refine gg rfl (fi n rfl rfl rfl ⟨_,_,rfl,rfl⟩ (by omega) ?_);refine gg rfl (lr rfl rfl ⟨⟨by grind,?_⟩,tr⟩ (by rw[J];trivial) fun z=>?_);grind[MH];exact jZ rfl
def bl (n:Nat):Nat:=if n=0 then 0 else n.log2+1
theorem Ms {n k:Nat}(h:n<4294967296^k):bl n<=32*k:=by
 unfold bl;split
 simp
 .rename_i h0;rw[show(4294967296:Nat)=2^32 by decide,<-Nat.pow_mul]at h;exact(xZ h0).2 h
theorem bl_mod {x y:Nat}(c:y≠0)(h:y<=x):bl (x%y)<bl x:=by
 have a:x≠0:=by omega
 unfold bl;split
 simp
 .have d:2*(x%y)<=x:=by
   have e:=zI x (show 0<y by omega);have f:=yH x y;have b:1<=x/y:=(yq (by omega)).2 (by omega);have:y*1<=y*(x/y):=zf _ b;omega
  have h3:(x%y).log2+1<=x.log2:=by
   have:=(Nat.le_log2 a (k:=(x%y).log2+1)).2 (by
    grind[Nat.log2_self_le])
   omega
  omega
theorem Gcd_PU (a b:List Nat) [n:LOk a] [o:LOk b](e:a.length<=900000000)(f:b.length<=900000000):PU 205 [nat a,nat b]=some (nat (ax (Nat.gcd (val a) (val b)))):=by
 refine PS rfl (jA rfl (Al a (by omega)) ?_);refine jA rfl (Al b (by omega)) ?_;refine gg rfl ?_;obtain⟨K,g⟩:∃K:Nat,K=900000000:=⟨_,rfl⟩;rw[<-g]at e f;have h:=zc (gT n) (zu (show 0<4294967296 by decide) e);have i:=zc (gT o) (zu (show 0<4294967296 by decide) f);refine aw (S:=fun x:Nat×Nat=>([nat (ax x.1),nat (ax x.2)],[none,none],[0,0])) (C:=fun x=>x.1<4294967296^K/\x.2<4294967296^K/\Nat.gcd x.1 x.2=Nat.gcd (val a) (val b)) (m:=fun x=>2*(bl x.1+bl x.2)+if x.1<x.2 then 1 else 0) (val a,val b) ⟨h,i,rfl⟩ ?_ ?_ ?_
 .have h1:=Ms h;have r:=Ms i;grind
 rfl;rintro⟨x,y⟩ ⟨j,k,p⟩ N q;refine jC rfl (fun h1=>?_) (fun h1=>?_)
 .rw[ad]at h1;have c:y≠0:=u9.1 (by grind);have l:=AJ (ax x) (ax y) (g▸bT.2 j) (g▸bT.2 k);rw[bX,bX,vd c]at l;refine jA rfl l (gE rfl (q (y,x%y) ⟨k,zq (Nat.mod_le _ _) j,?_⟩ ?_ (ah rfl tr (by rfl))));grind[Nat.gcd_comm,Nat.gcd_rec]
  .simp;by_cases d:x<y
   .rw[ve d,zU d,eE];omega
   have:=bl_mod c (Nat.le_of_not_lt d);grind
 rw[af]at h1
 have c:y=0:=by
  grind[u9]
 refine gE rfl (jF rfl ?_);rw[<-p,c,Nat.gcd_zero_right];rfl
class Sz (l:List Nat) (k:outParam Nat):Prop where
 ok:LOk l
 len:l.length<=k
instance {l:List Nat}{k:Nat} [h:Sz l k]:LOk l:=h.ok
class NB (n:Nat) (k:outParam Nat):Prop where
 lt:n<4294967296^k
instance szLimbs {n k:Nat} [h:NB n k]:Sz (ax n) k:=⟨cE _,bT.2 h.lt⟩
instance fS {l:List Nat}{k:Nat} [h:Sz l k]:NB (val l) k:=⟨zc (gT h.ok) (zu (by decide) h.len)⟩
theorem Co {j k:Nat}(h:j<=k):4294967296^j<=4294967296^k:=zu (by decide) h
theorem Ye (k:Nat):0<4294967296^k:=y7 (by decide)
theorem jj {m n k:Nat}(h:m<=n)(a:n<4294967296^k):m<4294967296^k:=zq h a
theorem sU {m n j k:Nat}(h1:m<4294967296^j)(c:n<4294967296^k):m+n<4294967296^(j+k+1):=by
 have a:=Co (show j<=j+k by omega);have b:=Co (show k<=j+k by omega);omega
theorem gO {m n j k:Nat}(h1:m<4294967296^j)(a:n<4294967296^k):m*n<4294967296^(j+k):=by
 simp_all[yn,w8]
structure RI where
 neg:Bool
 mag:List Nat
def RI.enc (a:RI):D:=.agg [.bool a.neg,nat a.mag]
def RI.v (a:RI):Int:=if a.neg then-(val a.mag:Int)else val a.mag
def RI.of (z:Int):RI:=⟨decide (z<0),ax z.natAbs⟩
def encI (z:Int):D:=(RI.of z).enc
theorem RI.of_v (z:Int):(RI.of z).v=z:=by
 grind[RI.of,RI.v,bX]
theorem RI.v_abs (a:RI):a.v.natAbs=val a.mag:=by
 grind[RI.v]
theorem W7 (z:Int){a:Bool}{n:Nat}(h1:a=decide (z<0))(b:n=z.natAbs):D.agg [.bool a,nat (ax n)]=encI z:=by
 subst h1;subst b;rfl
theorem mY (a:Bool)(l:List Nat){k:Nat} [h:Sz l k](b:k<=500000000):PU 235 [.bool a,nat l]=some (encI (RI.v ⟨a,l⟩)):=by
 have c:=h.len
 have e:∀n:Nat,n=(ax (val l)).length->ltb 0 (n:Int)=decide (val l≠0):=by
  simp[cw,u9]
 refine PS rfl (jA rfl (Al l (by omega)) ?_);refine gg rfl (au rfl (fun h1=>?_) (fun h1=>?_))
 .refine jF rfl ?_;subst h1;refine W7 _ ?_ ?_
  .simp only[RI.v];grind
  simp[RI.v]
 refine jF rfl ?_;subst h1;rfl
theorem KR (n:Int)(h1: -9223372036854775808<=n)(b:n<=9223372036854775807):PU 209 [.int .i64 n]=some (encI n):=by
 have nb:NB n.natAbs 2:=⟨by omega⟩;refine PS rfl (jC rfl (fun a=>?_) (fun a=>?_))
 .rw[ad]at a;have e:IntKind.u64.wrap (0-IntKind.u64.wrap n)=((n.natAbs:Nat):Int):=by grind[eI]
  refine gg rfl ?_;rw[e];refine aB rfl rfl (Bi n.natAbs (by omega)) ?_;refine aB rfl rfl (mY true (ax n.natAbs) (by decide)) ?_;refine jF rfl ?_;have:RI.v ⟨true,ax n.natAbs⟩=n:=by rw[RI.v,ve rfl,bX];omega
  rw[this];rfl
 rw[af]at a;have e:IntKind.u64.wrap n=((n.natAbs:Nat):Int):=by grind[eI]
 refine gg rfl ?_;rw[e];refine aB rfl rfl (Bi n.natAbs (by omega)) ?_;refine aB rfl rfl (mY false (ax n.natAbs) (by decide)) ?_;refine jF rfl ?_;have:RI.v ⟨false,ax n.natAbs⟩=n:=by rw[RI.v,vd (by simp),bX];omega
 rw[this];rfl
theorem E9 (a:RI){k:Nat} [h:Sz a.mag k](b:k<=500000000):PU 207 [a.enc]=some (encI a.v):=by
 exact PS rfl (jA rfl (mY a.neg a.mag b) (jZ rfl))
theorem WB (a:RI){k:Nat} [h:Sz a.mag k](b:k<=500000000):PU 213 [a.enc]=some (encI (-a.v)):=by
 refine PS rfl (jA rfl (mY (!a.neg) a.mag b) (jF rfl ?_));have:RI.v ⟨!a.neg,a.mag⟩= -a.v:=by grind[RI.v]
 rw[this];rfl
theorem Su (a b:RI){j k:Nat} [m:Sz a.mag j] [n:Sz b.mag k](p:j<=100000000)(q:k<=100000000):PU 211 [a.enc,b.enc]=some (encI (a.v+b.v)):=by
 have la:=m.len;have lb:=n.len;have c:NB (val a.mag) j:=inferInstance;have d:NB (val b.mag) k:=inferInstance;have h:Sz (ax (val a.mag+val b.mag)) (j+k+1):=⟨cE _,bT.2 (sU c.lt d.lt)⟩;have i:Sz (ax (val a.mag-val b.mag)) j:=⟨cE _,bT.2 (jj (Nat.sub_le _ _) c.lt)⟩;have g:Sz (ax (val b.mag-val a.mag)) k:=⟨cE _,bT.2 (jj (Nat.sub_le _ _) d.lt)⟩;have f:=ID a.mag b.mag (by omega) (by omega);have l:=ID b.mag a.mag (by omega) (by omega);refine PS rfl (jC rfl (fun o=>?_) (fun o=>?_))
 .refine jA rfl (vg a.mag b.mag (by omega) (by omega)) ?_;refine aB rfl rfl (mY a.neg _ (by omega)) ?_;refine jF rfl ?_
  have:RI.v ⟨a.neg,ax (val a.mag+val b.mag)⟩=a.v+b.v:=by
   grind[RI.v,bX]
  rw[this];rfl
 refine gg rfl ?_;by_cases e:val a.mag<val b.mag
 .rw[ve e]at f;rw[eE]at l;refine aB rfl rfl f (gg rfl (aj rfl (jA rfl l (jA rfl (mY b.neg _ (by omega)) ?_))));refine jF rfl ?_
  have:RI.v ⟨b.neg,ax (val b.mag-val a.mag)⟩=a.v+b.v:=by
   grind[RI.v,bX]
  rw[this];rfl
 rw[vd e]at f;refine aB rfl rfl f (gg rfl (ak rfl (jA rfl (mY a.neg _ (by omega)) ?_)));refine jF rfl ?_
 have:RI.v ⟨a.neg,ax (val a.mag-val b.mag)⟩=a.v+b.v:=by
  grind[RI.v,bX]
 rw[this];rfl
instance szOf {z:Int}{k:Nat} [h:NB z.natAbs k]:Sz (RI.of z).mag k:=⟨cE _,bT.2 h.lt⟩
theorem Ch (a b:RI){j k:Nat} [e:Sz a.mag j] [f:Sz b.mag k](g:j<=100000000)(h:k<=100000000):PU 208 [a.enc,b.enc]=some (encI (a.v*b.v)):=by
 have la:=e.len;have lb:=f.len;have c:NB (val a.mag) j:=inferInstance;have d:NB (val b.mag) k:=inferInstance;have i:Sz (ax (val a.mag*val b.mag)) (j+k):=⟨cE _,bT.2 (gO c.lt d.lt)⟩;refine PS rfl (jA rfl (tJ a.mag b.mag (by omega) (by omega)) ?_);refine aB rfl rfl (mY _ _ (by omega)) ?_;refine jF rfl ?_
 have:RI.v ⟨!(a.neg==b.neg),ax (val a.mag*val b.mag)⟩=a.v*b.v:=by
  grind[RI.v,bX,Int.mul_neg,Int.neg_mul]
 rw[this];rfl
theorem orU64g {a b m:Nat}(c:m<=64)(d:a<2^m)(g:b*2^m<18446744073709551616):IntKind.u64.wrap ((BitVec.ofInt IntKind.u64.bits (a:Int) |||BitVec.ofInt IntKind.u64.bits ((b*2^m:Nat):Int)).toNat:Int)=((a+b*2^m:Nat):Int):=by
 have h:2^m<=18446744073709551616:=by simpa using zu (n:=2) (by decide) c
 rw[BitVec.or_comm,rf,rf,wM,xC,xC];have e:IntKind.u64.bits=64:=rfl;rw[e,zU (show b*2^m<2^64 by omega),zU (show a<2^64 by omega),zx b,<-y4 d]
 have:2^m*b+a<18446744073709551616:=by
  have h1:2^m*b<2^m*2^(64-m):=by rw[<-yn,show m+(64-m)=64 by omega,zx];omega
  have f:b+1<=2^(64-m):=wh h1;have h3:=zf (2^m) f;rw[<-yn,show m+(64-m)=64 by omega,yP]at h3;omega
 rw[bq this,vB]
def sJ (z:Int):D:=if-9223372036854775808<=z/\z<=9223372036854775807 then .tup [.int .i64 z,.bool true]else .tup [.int .i64 0,.bool false]
theorem Ql (a:RI){k:Nat} [y:Sz a.mag k](r:k<=500000000):PU 178 [a.enc]=some (sJ a.v):=by
 refine PS rfl (jA rfl (E9 a r) (gg rfl ?_));have c:LOk (ax a.v.natAbs):=cE _;have j:val (ax a.v.natAbs)=a.v.natAbs:=bX _;have o:(ax a.v.natAbs).length<=2↔a.v.natAbs<18446744073709551616:=by rw[bT]
 have p:(RI.of a.v).neg=decide (a.v<0):=rfl;have d:(RI.of a.v).mag=ax a.v.natAbs:=rfl;rw[d]at*;generalize ax a.v.natAbs=M at*;rw[zA];refine an rfl (fun h1=>?_) (fun h1=>?_)
 .rw[ad]at h1;refine jF rfl ?_;rw[sJ,eE]
 rw[af]at h1;refine gg rfl (aw (S:=fun x:Nat=>([.ptr 0 0 0,.int .u64 (val (M.take x)),nat M,aa M.length,aa x],some (.row [.agg [.bool (decide (a.v<0)),nat M]] 2)::nn4,zz5)) (C:=fun x=>x<=M.length) (m:=fun x=>M.length-x) 0 (zB _) (by omega) ?_ ?_)
 .exact ah rfl ⟨rfl,tr⟩ (by grind[nat,aa,val])
 intro i hi N s;refine jC rfl (fun l=>?_) (fun l=>?_)
 .rw[ad]at l;have e:i<M.length:=by omega
  have z:=cF c i;have A:=wS (n:=i);have t:IntKind.i64.wrap (32*(i:Int))=((32*i:Nat):Int):=by grind[wrap64]
  have u:IntKind.u64.wrap (dg M i:Int)=(dg M i:Int):=bq (by omega)
  have q:dg M i*2^(32*i)<18446744073709551616:=by
   have:i=0\/i=1:=by omega
   grind
  have B:=kh c i;have w:=orU64g (a:=val (M.take i)) (b:=dg M i) (m:=32*i) (by omega) (by grind) q;refine jX i rfl rfl (eX e) rfl (gg rfl (kJ (dg M i) (32*i) rfl rfl u t (by show 32*i<=64;omega) (bq q) ?_));refine gg rfl ?_;rw[w];refine bo (s (i+1) e (by omega) (ah rfl ⟨rfl,tr⟩ ?_));grind[dc,Nat.pow_mul,nat,aa]
 rw[af]at l;obtain rfl:i=M.length:=by omega
 have f:IntKind.i64.wrap (IntKind.u64.wrap (0-(a.v.natAbs:Int)))= -(a.v.natAbs:Int)\/9223372036854775808<a.v.natAbs:=by
  by_cases h:a.v.natAbs<=9223372036854775808
  .simp[IntKind.wrap,IntKind.bits,IntKind.signed];omega
  omega
 have g:IntKind.i64.wrap (a.v.natAbs:Int)=(a.v.natAbs:Int)\/9223372036854775808<=a.v.natAbs:=by
  grind[wrap64]
 rw[zH,j]at*;refine gE rfl ?_
 repeat' (first
  |refine jP rfl ?_
  |refine au rfl ?_ ?_<;>intro _
  |refine ak rfl ?_|refine aj rfl ?_|refine an rfl ?_ ?_<;>intro _
  |refine fI rfl ?_)
 all_goals simp only[cw,ca,zT,zQ,xH,Bool.not_eq_false']at*
 all_goals unfold sJ
 all_goals (rcases f with f|f<;>rcases g with g|g<;>(try rw[f])<;>(try rw[g])<;>split<;>first|(exfalso;omega) |rfl|(simp;omega) |trace_state)
end Go.F
namespace Go.F
structure RR where
 neg:Bool
 mag:List Nat
 den:List Nat
def RR.num (a:RR):RI:=⟨a.neg,a.mag⟩
def RR.enc (a:RR):D:=.agg [.bool a.neg,nat a.mag,nat a.den]
def RR.v (a:RR):Rat:=mkRat a.num.v (val a.den)
def RR.of (q:Rat):RR:=⟨decide (q.num<0),ax q.num.natAbs,ax q.den⟩
def kF (q:Rat):D:=(RR.of q).enc
theorem RR.of_v (q:Rat):(RR.of q).v=q:=by
 show mkRat (RI.of q.num).v (val (ax q.den))=q;simp[RI.of_v,bX]
class SzR (a:RR) (k:outParam Nat):Prop where
 mag:Sz a.mag k
 den:Sz a.den k
instance szRm {a:RR}{k:Nat} [h:SzR a k]:Sz a.mag k:=h.mag
instance szRd {a:RR}{k:Nat} [h:SzR a k]:Sz a.den k:=h.den
instance szRn {a:RR}{k:Nat} [h:SzR a k]:Sz a.num.mag k:=h.mag
class QB (q:Rat) (k:outParam Nat):Prop where
 num:q.num.natAbs<4294967296^k
 den:q.den<4294967296^k
instance G4 {q:Rat}{k:Nat} [h:QB q k]:SzR (RR.of q) k:=⟨⟨cE _,bT.2 h.num⟩,⟨cE _,bT.2 h.den⟩⟩
theorem MA {n:Int}{g:Nat}(a:g∣n.natAbs):(n/(g:Int)).natAbs=n.natAbs/g:=by
 grind[Int.dvd_natAbs,Int.natCast_dvd_natCast,Int.natAbs_ediv_of_dvd]
theorem Dk {n:Int}{d:Nat}{j:Nat}(b:n.natAbs<4294967296^j)(c:d<4294967296^j)(a:d≠0):QB (mkRat n d) j:=by
 constructor
 .rw[Rat.num_mkRat,vd a,MA (Nat.gcd_dvd_right _ _)];exact jj (vJ _ _) b
 rw[Rat.den_mkRat,vd a];exact jj (vJ _ _) c
instance Dr {a b:Rat}{j k:Nat} [ha:QB a j] [hb:QB b k]:QB (a+b) (j+k+1):=by
 rw[Rat.add_def'];refine Dk ?_ ?_ (wN a.den_nz b.den_nz)
 .have h1:=gO ha.num hb.den;have h2:=gO hb.num ha.den;grind[Int.natAbs_add_le,Int.natAbs_mul]
 exact jj (zD _) (zc (gO ha.den hb.den) (Co (by omega)))
instance Er {a b:Rat}{j k:Nat} [ha:QB a j] [hb:QB b k]:QB (a*b) (j+k):=by
 rw[Rat.mul_def'];refine Dk ?_ (gO ha.den hb.den) (wN a.den_nz b.den_nz);rw[yV];exact gO ha.num hb.num
instance qbNeg {a:Rat}{k:Nat} [h:QB a k]:QB (-a) k:=⟨by rw[Rat.neg_num,Int.natAbs_neg];exact h.num,by exact h.den⟩
instance Ca {a b:Rat}{j k:Nat} [ha:QB a j] [hb:QB b k]:QB (a-b) (j+k+1):=by
 simp[Rat.sub_eq_add_neg,Dr]
instance qbInv {a:Rat}{k:Nat} [h:QB a k]:QB a⁻¹ k:=by
 constructor
 .rw[Rat.num_inv,yV];refine jj ?_ h.den;grind
 rw[Rat.den_inv];split
 .exact jj a.den_pos h.den
 exact h.num
instance qbDiv {a b:Rat}{j k:Nat} [ha:QB a j] [hb:QB b k]:QB (a/b) (j+k):=by
 simp[Rat.div_def,Er]
theorem FI {z:Int}(h1: -9223372036854775808<=z)(a:z<=9223372036854775807):QB (z:Rat) 2:=by
 constructor;grind[Rat.num_intCast];simp
def rnd (n:Int)(d:Nat):Int:=if n<0 then-(((2*n.natAbs+d)/(2*d):Nat):Int)else((2*n.natAbs+d)/(2*d):Nat)
def fG (q:Rat):Int:=rnd q.num q.den
theorem WU (n:Int)(d k:Nat)(a:k≠0):rnd (n*k) (d*k)=rnd n d:=by
 unfold rnd
 have e:(2*(n*(k:Int)).natAbs+d*k)/(2*(d*k))=(2*n.natAbs+d)/(2*d):=by
  rw[yV];simp;rw[<-yi,<-yX,<-yi,Nat.mul_div_mul_right _ _ (wW a)]
 have b:n*(k:Int)<0↔n<0:=by
  grind[Int.mul_nonneg,Int.mul_neg_of_neg_of_pos]
 omega
theorem Th (n:Int){d:Nat}(a:d≠0):fG (mkRat n d)=rnd n d:=by
 obtain⟨k,c,h1,b⟩:=Rat.normalize_num_den' n d a;rw[Rat.normalize_eq_mkRat]at h1 b;show rnd (mkRat n d).num (mkRat n d).den=rnd n d;grind[WU]
theorem Qx {n:Int}{d:Nat}(a:d≠0):kF (mkRat n d)=.agg [.bool (decide (n<0)),nat (ax (n.natAbs/Nat.gcd n.natAbs d)),nat (ax (d/Nat.gcd n.natAbs d))]:=by
 have b:(mkRat n d).num.natAbs=n.natAbs/Nat.gcd n.natAbs d:=by
  simp_all[Rat.num_mkRat,MA,Nat.gcd_dvd_right,Nat.gcd_comm]
 have c:(mkRat n d).den=d/Nat.gcd n.natAbs d:=by
  simp_all[Rat.den_mkRat,Nat.gcd_comm]
 have e:(mkRat n d).num<0↔n<0:=by
  have h1:0<=(mkRat n d).num↔0<=n:=by
   rw[Rat.num_nonneg,<-Rat.divInt_ofNat,Rat.divInt_nonneg_iff_of_pos_right (by omega)]
  omega
 grind[kF,RR.of,RR.enc]
def RR.fix (a:RR):RR:=if val a.den=0 then⟨false,[],[1]⟩else a
theorem RR.fix_v (a:RR):a.fix.v=a.v:=by
 unfold RR.fix;split
 .rename_i h;simp[RR.v,h];rfl
 rfl
theorem RR.fix_den (a:RR):val a.fix.den≠0:=by
 grind[RR.fix,val]
instance kV {a:RR}{k:Nat} [h:SzR a k]:SzR a.fix (k+1):=by
 have h1:=h.mag.len;have h2:=h.den.len;unfold RR.fix;split
 .exact⟨⟨⟨by simp⟩,by simp⟩,⟨⟨by simp⟩,by simp⟩⟩
 exact⟨⟨h.mag.ok,by omega⟩,⟨h.den.ok,by omega⟩⟩
attribute [local irreducible] IntKind.wrap wpM
theorem LM (l:List Nat){k:Nat} [h:Sz l k](a:k<=100000000):PU 171 [nat l]=some (.bool (decide (val l=0))):=by
 have b:=h.len;refine PS rfl (jA rfl (CJ l [] (by omega) (by simp)) ?_);refine jF rfl ?_;simp[cC,br,val,vd]
theorem JH (l:List Nat):PU 212 [nat l]=some (RI.enc ⟨false,l⟩):=by
 exact PS rfl (jZ rfl)
theorem nB (a:RR){k:Nat} [h:SzR a k](b:k<=100000000):PU 170 [a.enc]=some a.fix.enc:=by
 refine PS rfl (jA rfl (LM a.den b) (jC rfl (fun g=>?_) (fun g=>?_)))
 .refine jA rfl (Bi 1 (by decide)) ?_;refine jF rfl ?_;rw[RR.fix,ve (by grind)];rfl
 refine jF rfl ?_;rw[RR.fix,vd (by grind)];rfl
theorem sa (n:RI)(d:List Nat){j k:Nat} [f:Sz n.mag j] [g:Sz d k](l:j<=100000000)(m:k<=100000000)(a:val d≠0):PU 173 [n.enc,nat d]=some (kF (mkRat n.v (val d))):=by
 have o:=f.len;have p:=g.len;have b:NB (val n.mag) j:=inferInstance;have c:NB (val d) k:=inferInstance
 have e:Nat.gcd (val n.mag) (val d)≠0:=by
  grind
 have q:(ax (Nat.gcd (val n.mag) (val d))).length<=k:=bT.2 (jj (Nat.gcd_le_right _ (by omega)) c.lt);have d1:=AJ n.mag (ax (Nat.gcd (val n.mag) (val d))) (by omega) (by omega);have d2:=AJ d (ax (Nat.gcd (val n.mag) (val d))) (by omega) (by omega);rw[bX,vd e]at d1 d2;have r:Sz (ax (val n.mag/Nat.gcd (val n.mag) (val d))) j:=⟨cE _,bT.2 (jj (vJ _ _) b.lt)⟩;refine PS rfl (jA rfl (Gcd_PU n.mag d (by omega) (by omega)) ?_);refine jA rfl d1 (jA rfl d2 (jA rfl (E9 ⟨n.neg,ax (val n.mag/Nat.gcd (val n.mag) (val d))⟩ (by omega)) ?_));refine jF rfl ?_;rw[Qx a,RI.v_abs]
 have h:RI.v ⟨n.neg,ax (val n.mag/Nat.gcd (val n.mag) (val d))⟩=if n.neg then-((val n.mag/Nat.gcd (val n.mag) (val d):Nat):Int)else(val n.mag/Nat.gcd (val n.mag) (val d):Nat):=by
  rw[RI.v,bX]
 have i:=Nat.div_mul_cancel (Nat.gcd_dvd_left (val n.mag) (val d))
 have s:decide (RI.v ⟨n.neg,ax (val n.mag/Nat.gcd (val n.mag) (val d))⟩<0)=decide (n.v<0):=by
  rw[h,decide_eq_decide,RI.v]
  have t:val n.mag/Nat.gcd (val n.mag) (val d)=0↔val n.mag=0:=by
   constructor;grind;simp_all
  grind
 show D.agg [.bool (decide (RI.v ⟨n.neg,ax (val n.mag/Nat.gcd (val n.mag) (val d))⟩<0)),nat (ax (RI.v ⟨n.neg,ax (val n.mag/Nat.gcd (val n.mag) (val d))⟩).natAbs),nat (ax (val d/Nat.gcd (val n.mag) (val d)))]=_;grind
theorem Jp (n d:Int)(h1: -9223372036854775808<=n)(f:n<=9223372036854775807)(h3:0<d)(h:d<=9223372036854775807):PU 177 [.int .i64 n,.int .i64 d]=some (.tup [kF (mkRat n d.toNat),.bool true]):=by
 have nb:NB n.natAbs 2:=⟨by omega⟩;have c:NB d.natAbs 2:=⟨by omega⟩;have b:(RI.of d).neg=false:=by show decide (d<0)=false;grind
 have hr:=sa (RI.of n) (ax d.natAbs) (by decide) (by decide) (by grind[bX]);rw[RI.of_v,bX]at hr;have a:d.natAbs=d.toNat:=by omega
 rw[<-a];refine PS rfl (jC rfl (fun g=>?_) (fun g=>?_))
 .rw[co]at g;omega
 refine jA rfl (KR n (by omega) (by omega)) ?_;refine jA rfl (KR d (by omega) (by omega)) ?_;refine gg rfl ?_;have e:(!((RI.of n).neg==(RI.of d).neg))=(RI.of n).neg:=by grind
 rw[e];exact aB rfl rfl hr (jZ rfl)
theorem SA (a:RR){k:Nat} [h:SzR a k](c:k<=10000000):PU 181 [a.enc]=some (kF (-a.v)):=by
 have h0:=a.fix_den;have b:=a.fix_v;have sn:Sz (RI.of (-a.fix.num.v)).mag (k+1):=⟨cE _,bT.2 (by rw[Int.natAbs_neg,RI.v_abs];exact(fS (l:=a.fix.num.mag)).lt)⟩;have hr:=sa (RI.of (-a.fix.num.v)) a.fix.den (by omega) (by omega) h0;rw[RI.of_v,<-Rat.neg_mkRat]at hr;refine PS rfl (jA rfl (nB a (by omega)) ?_);refine jA rfl (WB a.fix.num (by omega)) ?_;refine jA rfl hr (jF rfl ?_);rw[<-b];rfl
theorem CK (a b:RR){j k:Nat} [r:SzR a j] [s:SzR b k](t:j<=10000000)(u:k<=10000000):PU 180 [a.enc,b.enc]=some (kF (a.v+b.v)):=by
 have c:=a.fix_den;have d:=b.fix_den;have e:=a.fix_v;have f:=b.fix_v;have w:=(fS (l:=a.fix.num.mag)).lt;have g:=(fS (l:=a.fix.den)).lt;have nb:=(fS (l:=b.fix.num.mag)).lt;have h:=(fS (l:=b.fix.den)).lt;have x:Sz (RI.of (a.fix.num.v*val b.fix.den)).mag ((j+1)+(k+1)):=⟨cE _,bT.2 (by simp_all[yV,RI.v_abs,gO])⟩;have y:Sz (RI.of (b.fix.num.v*val a.fix.den)).mag ((k+1)+(j+1)):=⟨cE _,bT.2 (by simp_all[yV,RI.v_abs,gO])⟩
 have z:Sz (RI.of (a.fix.num.v*val b.fix.den+b.fix.num.v*val a.fix.den)).mag (((j+1)+(k+1))+((k+1)+(j+1))+1):=
  ⟨cE _,bT.2 (jj (Int.natAbs_add_le _ _) (sU (by simp_all[yV,RI.v_abs,gO]) (by simp_all[yV,RI.v_abs,gO])))⟩
 have A:Sz (ax (val a.fix.den*val b.fix.den)) ((j+1)+(k+1)):=⟨cE _,bT.2 (gO g h)⟩;have n:=(kV (a:=a)).den.len;have o:=(kV (a:=b)).den.len;have p:=Ch a.fix.num ⟨false,b.fix.den⟩ (by omega) (by omega);have q:=Ch b.fix.num ⟨false,a.fix.den⟩ (by omega) (by omega);have i:=Su (RI.of (a.fix.num.v*val b.fix.den)) (RI.of (b.fix.num.v*val a.fix.den)) (by omega) (by omega);rw[RI.of_v,RI.of_v]at i;have m:=sa (RI.of (a.fix.num.v*val b.fix.den+b.fix.num.v*val a.fix.den)) (ax (val a.fix.den*val b.fix.den)) (by omega) (by omega) (by grind[bX,Nat.mul_ne_zero]);rw[RI.of_v,bX,<-Rat.mkRat_add_mkRat _ _ c d]at m;refine PS rfl (jA rfl (nB a (by omega)) ?_);refine jA rfl (nB b (by omega)) ?_;refine jA rfl (JH b.fix.den) (aB rfl rfl p (jA rfl (JH a.fix.den) (aB rfl rfl q (aB rfl rfl i (jA rfl (tJ a.fix.den b.fix.den (by omega) (by omega)) ?_)))));refine aB rfl rfl m (jF rfl ?_);rw[<-e,<-f];rfl
instance qbV {a:RR}{k:Nat} [h:SzR a k]:QB a.v (k+1):=by
 by_cases h0:val a.den=0
 .have e:a.v=0:=by simp_all[RR.v]
  rw[e];refine⟨?_,?_⟩;simp[Ye];simp
 have h1:=(fS (l:=a.num.mag)).lt;have h2:=(fS (l:=a.den)).lt;exact Dk (by grind[RI.v_abs]) (by omega) h0
theorem EV (a b:RR){j k:Nat} [c:SzR a j] [d:SzR b k](e:j<=1000000)(f:k<=1000000):PU 131 [a.enc,b.enc]=some (kF (a.v-b.v)):=by
 have h1:=CK a (RR.of (-b.v)) (by omega) (by omega);rw[RR.of_v,<-Rat.sub_eq_add_neg]at h1;refine PS rfl (jA rfl (SA b (by omega)) ?_);exact aB rfl rfl h1 (jZ rfl)
theorem vi (a b:RR){j k:Nat} [o:SzR a j] [p:SzR b k](q:j<=10000000)(r:k<=10000000):PU 174 [a.enc,b.enc]=some (kF (a.v*b.v)):=by
 have h:=a.fix_den;have i:=b.fix_den;have c:=a.fix_v;have d:=b.fix_v;have s:=(fS (l:=a.fix.num.mag)).lt;have e:=(fS (l:=a.fix.den)).lt;have nb:=(fS (l:=b.fix.num.mag)).lt;have f:=(fS (l:=b.fix.den)).lt;have m:=(kV (a:=a)).den.len;have n:=(kV (a:=b)).den.len;have t:Sz (RI.of (a.fix.num.v*b.fix.num.v)).mag ((j+1)+(k+1)):=⟨cE _,bT.2 (by simp_all[yV,RI.v_abs,gO])⟩;have u:Sz (ax (val a.fix.den*val b.fix.den)) ((j+1)+(k+1)):=⟨cE _,bT.2 (gO e f)⟩;have g:=sa (RI.of (a.fix.num.v*b.fix.num.v)) (ax (val a.fix.den*val b.fix.den)) (by omega) (by omega) (by grind[bX,Nat.mul_ne_zero]);rw[RI.of_v,bX,<-Rat.mkRat_mul_mkRat]at g;refine PS rfl (jA rfl (nB a (by omega)) ?_);refine jA rfl (nB b (by omega)) ?_;refine jA rfl (Ch a.fix.num b.fix.num (by omega) (by omega)) ?_;refine jA rfl (tJ a.fix.den b.fix.den (by omega) (by omega)) ?_;refine aB rfl rfl g (jF rfl ?_);rw[<-c,<-d];rfl
theorem div_mk (a b:RR)(d:val a.den≠0)(f:val b.den≠0)(c:val b.mag≠0):mkRat (RI.v ⟨!(a.neg==b.neg),ax (val a.mag*val b.den)⟩) (val a.den*val b.mag)=a.v/b.v:=by
 have g:b.v≠0:=by
  grind[RR.v,Rat.mkRat_ne_zero,RI.v_abs,RR.num]
 have e:mkRat (RI.v ⟨!(a.neg==b.neg),ax (val a.mag*val b.den)⟩) (val a.den*val b.mag) *b.v=a.v:=by
  rw[RR.v,RR.v,Rat.mkRat_mul_mkRat,Rat.mkRat_eq_iff (wN (wN d c) f) d];unfold RI.v RR.num;simp only[bX];grind
 grind
theorem YY (a b:RR){j k:Nat} [u:SzR a j] [w:SzR b k](x:j<=10000000)(y:k<=10000000):PU 126 [a.enc,b.enc]=some (if b.v=0 then .tup [RR.enc ⟨false,[],[]⟩,.bool false]else .tup [kF (a.v/b.v),.bool true]):=by
 have e:=a.fix_den;have c:=b.fix_den;have f:=a.fix_v;have d:=b.fix_v;have p:=(fS (l:=a.fix.mag)).lt;have i:=(fS (l:=a.fix.den)).lt;have nb:=(fS (l:=b.fix.mag)).lt;have m:=(fS (l:=b.fix.den)).lt;have q:=(kV (a:=a)).den.len;have r:=(kV (a:=b)).den.len;have s:=(kV (a:=a)).mag.len;have t:=(kV (a:=b)).mag.len
 have n:b.v=0↔val b.fix.mag=0:=by
  rw[<-d,RR.v,Rat.mkRat_eq_zero c];have:=RI.v_abs b.fix.num;constructor
  .intro h;rw[h]at this;exact this.symm
  intro h;have z:b.fix.num.v.natAbs=0:=by rw[this];exact h
  omega
 have A:Sz (ax (val a.fix.mag*val b.fix.den)) ((j+1)+(k+1)):=⟨cE _,bT.2 (gO p m)⟩;have B:Sz (ax (val a.fix.den*val b.fix.mag)) ((j+1)+(k+1)):=⟨cE _,bT.2 (gO i nb)⟩;refine PS rfl (jA rfl (nB a (by omega)) ?_);refine jA rfl (nB b (by omega)) ?_;refine jA rfl (LM b.fix.mag (by omega)) ?_;refine jC rfl (fun g=>?_) (fun g=>?_)
 .have g:val b.fix.mag=0:=by grind
  refine jF rfl ?_;rw[ve (n.2 g)];rfl
 have g:val b.fix.mag≠0:=by grind
 have o:=sa ⟨!(a.fix.neg==b.fix.neg),ax (val a.fix.mag*val b.fix.den)⟩ (ax (val a.fix.den*val b.fix.mag)) (by omega) (by omega) (by grind[bX,Nat.mul_ne_zero]);rw[bX,div_mk a.fix b.fix e c g,f,d]at o;refine jA rfl (tJ a.fix.mag b.fix.den (by omega) (by omega)) ?_;refine jA rfl (tJ a.fix.den b.fix.mag (by omega) (by omega)) ?_;refine aB rfl rfl o (jF rfl ?_);rw[vd (fun h=>g (n.1 h))];rfl
theorem Ro (a:RR)(b:val a.den≠0):RI.v ⟨a.neg,ax ((val a.mag+val a.mag+val a.den)/(val a.den+val a.den))⟩=fG a.v:=by
 rw[RR.v,Th _ b];unfold rnd;rw[RI.v_abs];simp only[RR.num,bX,RI.v];rw[<-Nat.two_mul,<-Nat.two_mul];by_cases h0:val a.mag=0
 .have:(2*val a.mag+val a.den)/(2*val a.den)=0:=by exact xf (by omega)
  omega
 by_cases c:a.neg=true
 simp_all;grind
theorem WY (q:Rat):(fG q).natAbs<=2*q.num.natAbs+q.den:=by
 unfold fG rnd;have:=vJ (2*q.num.natAbs+q.den) (2*q.den);grind
instance nbRound {q:Rat}{k:Nat} [h:QB q k]:NB (fG q).natAbs (k+1):=by
 refine⟨jj (WY q) ?_⟩;have h1:=h.num;have h2:=h.den;omega
theorem YN (a:RR){k:Nat} [h:SzR a k](p:k<=1000000):PU 179 [a.enc]=some (encI (fG a.v)):=by
 have d:=a.fix_den;have e:=a.fix_v;have f:=(fS (l:=a.fix.mag)).lt;have b:=(fS (l:=a.fix.den)).lt;have m:=(kV (a:=a)).den.len;have n:=(kV (a:=a)).mag.len;have g:=sU f f;have i:=sU g b;have o:=sU b b;have l2:=bT.2 g;have q:=bT.2 i;have r:=bT.2 o;have j:=vg (ax (val a.fix.mag+val a.fix.mag)) a.fix.den (by omega) (by omega);rw[bX]at j;have d1:=AJ (ax (val a.fix.mag+val a.fix.mag+val a.fix.den)) (ax (val a.fix.den+val a.fix.den)) (by omega) (by omega);rw[bX,bX,eE]at d1;have s:Sz (RI.mag ⟨a.fix.neg,ax ((val a.fix.mag+val a.fix.mag+val a.fix.den)/(val a.fix.den+val a.fix.den))⟩) _:=⟨cE _,bT.2 (jj (vJ _ _) i)⟩;have c:=E9 ⟨a.fix.neg,ax ((val a.fix.mag+val a.fix.mag+val a.fix.den)/(val a.fix.den+val a.fix.den))⟩ (by omega);rw[Ro a.fix d,e]at c;refine PS rfl (jA rfl (nB a (by omega)) ?_);refine jA rfl (vg a.fix.mag a.fix.mag (by omega) (by omega)) ?_;refine jA rfl j (jA rfl (vg a.fix.den a.fix.den (by omega) (by omega)) ?_);exact aB rfl rfl d1 (jA rfl c (jZ rfl))
structure RP where
 x:RR
 y:RR
structure QP where
 x:Rat
 y:Rat
 deriving DecidableEq
def RP.enc (p:RP):D:=.agg [.bool p.x.neg,nat p.x.mag,nat p.x.den,.bool p.y.neg,nat p.y.mag,nat p.y.den]
def RP.v (p:RP):QP:=⟨p.x.v,p.y.v⟩
def RP.of (q:QP):RP:=⟨RR.of q.x,RR.of q.y⟩
def pH (q:QP):D:=(RP.of q).enc
theorem RP.of_v (q:QP):(RP.of q).v=q:=by
 simp[RP.of,RP.v,RR.of_v]
class SzP (p:RP) (k:outParam Nat):Prop where
 x:SzR p.x k
 y:SzR p.y k
instance szPx {p:RP}{k:Nat} [h:SzP p k]:SzR p.x k:=h.x
instance szPy {p:RP}{k:Nat} [h:SzP p k]:SzR p.y k:=h.y
class QPB (q:QP) (k:outParam Nat):Prop where
 x:QB q.x k
 y:QB q.y k
instance qpX {q:QP}{k:Nat} [h:QPB q k]:QB q.x k:=h.x
instance qpY {q:QP}{k:Nat} [h:QPB q k]:QB q.y k:=h.y
instance szPOf {q:QP}{k:Nat} [h:QPB q k]:SzP (RP.of q) k:=⟨G4 (h:=h.x),G4 (h:=h.y)⟩
instance qpV {p:RP}{k:Nat} [h:SzP p k]:QPB p.v (k+1):=⟨qbV (h:=h.x),qbV (h:=h.y)⟩
def eW (a b:QP):QP:=⟨a.x+b.x,a.y+b.y⟩
def bA (a b:QP):QP:=⟨a.x-b.x,a.y-b.y⟩
def ew (a:QP)(r:Rat):QP:=⟨a.x*r,a.y*r⟩
def kP (a b:QP):Rat:=a.x*b.y-a.y*b.x
def onP (a b:QP)(t:Rat):QP:=eW a (ew (bA b a) t)
instance qpAdd {a b:QP}{j k:Nat} [QPB a j] [QPB b k]:QPB (eW a b) (j+k+1):=⟨Dr,Dr⟩
instance qpSub {a b:QP}{j k:Nat} [QPB a j] [QPB b k]:QPB (bA a b) (j+k+1):=⟨Ca,Ca⟩
instance qpScale {a:QP}{r:Rat}{j k:Nat} [QPB a j] [QB r k]:QPB (ew a r) (j+k):=⟨Er,Er⟩
instance qbCross {a b:QP}{j k:Nat} [QPB a j] [QPB b k]:QB (kP a b) ((j+k)+(j+k)+1):=Ca
instance qpOn {a b:QP}{t:Rat}{i j k:Nat} [QPB a i] [QPB b j] [QB t k]:QPB (onP a b t) (i+((j+i+1)+k)+1):=qpAdd
theorem Re (n:Int):mkRat n (1:Int).toNat=(n:Rat):=Rat.mkRat_one n
theorem Wl (x y:Int)(a: -9223372036854775808<=x)(b:x<=9223372036854775807)(c: -9223372036854775808<=y)(d:y<=9223372036854775807):PU 129 [.int .i64 x,.int .i64 y]=some (pH ⟨x,y⟩):=by
 have e:=Jp x 1 a b (by decide) (by decide);have f:=Jp y 1 c d (by decide) (by decide);rw[Re]at e f;exact PS rfl (jA rfl e (jA rfl f (jZ rfl)))
theorem SY (a b:RP){j k:Nat} [c:SzP a j] [d:SzP b k](e:j<=1000000)(f:k<=1000000):PU 175 [a.enc,b.enc]=some (pH (eW a.v b.v)):=by
 refine PS rfl (jA rfl (CK a.x b.x (by omega) (by omega)) ?_);refine jA rfl (CK a.y b.y (by omega) (by omega)) ?_;exact jZ rfl
theorem sV (a b:RP){j k:Nat} [c:SzP a j] [d:SzP b k](e:j<=1000000)(f:k<=1000000):PU 89 [a.enc,b.enc]=some (pH (bA a.v b.v)):=by
 refine PS rfl (jA rfl (EV a.x b.x (by omega) (by omega)) ?_);refine jA rfl (EV a.y b.y (by omega) (by omega)) ?_;exact jZ rfl
theorem Ur (a:RP)(r:RR){j k:Nat} [b:SzP a j] [c:SzR r k](d:j<=1000000)(e:k<=1000000):PU 176 [a.enc,r.enc]=some (pH (ew a.v r.v)):=by
 refine PS rfl (jA rfl (vi a.x r (by omega) (by omega)) ?_);refine jA rfl (vi a.y r (by omega) (by omega)) ?_;exact jZ rfl
theorem OF (a b:RP){j k:Nat} [c:SzP a j] [d:SzP b k](e:j<=100000)(f:k<=100000):PU 127 [a.enc,b.enc]=some (kF (kP a.v b.v)):=by
 have s:=EV (RR.of (a.x.v*b.y.v)) (RR.of (a.y.v*b.x.v)) (by omega) (by omega);rw[RR.of_v,RR.of_v]at s;refine PS rfl (jA rfl (vi a.x b.y (by omega) (by omega)) ?_);refine jA rfl (vi a.y b.x (by omega) (by omega)) ?_;exact aB rfl rfl s (jZ rfl)
theorem Yq (a b:RP)(t:RR){i j k:Nat} [c:SzP a i] [e:SzP b j] [f:SzR t k](hi:i<=10000)(g:j<=10000)(h:k<=10000):PU 128 [a.enc,b.enc,t.enc]=some (pH (onP a.v b.v t.v)):=by
 have s:=Ur (RP.of (bA b.v a.v)) t (by omega) (by omega);rw[RP.of_v]at s;have d:=SY a (RP.of (ew (bA b.v a.v) t.v)) (by omega) (by omega);rw[RP.of_v]at d;refine PS rfl (jA rfl (sV b a (by omega) (by omega)) ?_);exact jA rfl s (aB rfl rfl d (jZ rfl))
def qj (a b c d:QP):Option QP:=
 if kP (bA b a) (bA d c)=0 then none else some (onP a b (kP (bA c a) (bA d c)/kP (bA b a) (bA d c)))
def QI:Option QP->D
 |none=> .tup [RP.enc ⟨⟨false,[],[]⟩,⟨false,[],[]⟩⟩,.int .i64 10]
 |some p=> .tup [pH p,.int .i64 0]
theorem PG (a b c d:RP){k:Nat} [f:SzP a k] [g:SzP b k] [h:SzP c k] [i:SzP d k](j:k<=100):PU 86 [a.enc,b.enc,c.enc,d.enc]=some (QI (qj a.v b.v c.v d.v)):=by
 have c1:=OF (RP.of (bA c.v a.v)) (RP.of (bA d.v c.v)) (by omega) (by omega);have c2:=OF (RP.of (bA b.v a.v)) (RP.of (bA d.v c.v)) (by omega) (by omega);rw[RP.of_v,RP.of_v]at c1 c2;have e:=YY (RR.of (kP (bA c.v a.v) (bA d.v c.v))) (RR.of (kP (bA b.v a.v) (bA d.v c.v))) (by omega) (by omega);rw[RR.of_v,RR.of_v]at e;refine PS rfl (jA rfl (sV d c (by omega) (by omega)) ?_);refine jA rfl (sV c a (by omega) (by omega)) ?_;refine jA rfl c1 (jA rfl (sV b a (by omega) (by omega)) ?_);refine jA rfl c2 ?_;by_cases h0:kP (bA b.v a.v) (bA d.v c.v)=0
 .rw[ve h0]at e;refine aB rfl rfl e (gg rfl (ak rfl (jF rfl ?_)));rw[qj,ve h0];rfl
 rw[vd h0]at e;have o:=Yq a b (RR.of (kP (bA c.v a.v) (bA d.v c.v)/kP (bA b.v a.v) (bA d.v c.v))) (by omega) (by omega) (by omega);rw[RR.of_v]at o;refine aB rfl rfl e (gg rfl (aj rfl (jA rfl o (jF rfl ?_))));rw[qj,vd h0];rfl
def oR (z:Int):Bool:=decide (-1048576<=z)&&decide (z<=1048576)
theorem IH (r:RR){k:Nat} [h:SzR r k](a:k<=100000):PU 130 [r.enc]=some (.tup [.int .i64 (if-9223372036854775808<=fG r.v/\fG r.v<=9223372036854775807 then fG r.v else 0),.bool (oR (fG r.v))]):=by
 have s:=Ql (RI.of (fG r.v)) (by omega);rw[RI.of_v]at s;refine PS rfl (jA rfl (YN r (by omega)) ?_);by_cases h1: -9223372036854775808<=fG r.v/\fG r.v<=9223372036854775807
 .rw[sJ,ve h1]at s;refine aB rfl rfl s ?_
  repeat' (first
   |refine jP rfl ?_
   |refine gr rfl ?_|refine aq rfl ?_|refine au rfl ?_ ?_<;>intro _
   |refine fI rfl ?_)
  all_goals simp only[cw,ca,zT,zQ]at*
  all_goals simp only[oR]
  all_goals simp_all
  omega
 rw[sJ,vd h1]at s;refine aB rfl rfl s ?_
 repeat' (first
  |refine jP rfl ?_
  |refine gr rfl ?_|refine aq rfl ?_|refine au rfl ?_ ?_<;>intro _
  |refine fI rfl ?_)
 grind[oR]
def gU (p:QP):Spot×Int:=if oR (fG p.x)&&oR (fG p.y)then(⟨fG p.x,fG p.y⟩,0)else(⟨0,0⟩,3)
theorem vn {z:Int}:oR z=true↔ -1048576<=z/\z<=1048576:=by simp[oR]
theorem P5 (p:RP){k:Nat} [h:SzP p k](e:k<=100000):PU 88 [p.enc]=some (.tup [(gU p.v).1.enc,.int .i64 (gU p.v).2]):=by
 have c:p.v.x=p.x.v:=rfl;have d:p.v.y=p.y.v:=rfl;refine PS rfl (jA rfl (IH p.x e) (jA rfl (IH p.y e) (gg rfl (au rfl (fun a=>?_) (fun a=>?_)))))
 .repeat' (first
   |refine jP rfl ?_
   |refine ak rfl ?_|refine aj rfl ?_|refine an rfl ?_ ?_<;>intro _
   |refine fI rfl ?_)
  simp at a;rw[gU,c,d,a];rfl
 simp at a
 repeat' (first
  |refine jP rfl ?_
  |refine ak rfl ?_|refine aj rfl ?_|refine an rfl ?_ ?_<;>intro _
  |refine fI rfl ?_)
 .rename_i b;simp at b;rw[gU,c,d,a,b];rfl
 rename_i b;simp at b;have f:=vn.1 a;have g:=vn.1 b;rw[gU,c,d,a,b,rA,rA];rfl
set_option maxRecDepth 100000 in
theorem QJ:(prog.funcs[Eu]?).map (fun fn=>fn.body.isNone&&fn.name== "math.sqrt")=some true:=by rfl
theorem Tm {x y:Nat}(h:FloatKind.f64.format.sqrt x=some y):PU Eu [.float .f64 x]=some (.float .f64 y):=by
 refine uK (n:=1) ?_;have h0:=QJ;simp_all[Eu,run,env,uZ]
theorem Yl {x y:Nat}(h:FloatKind.f64.format.sqrt x=some y):PU 125 [.float .f64 x]=some (.float .f64 y):=by
 exact PS rfl (jA rfl (Tm h) (jZ rfl))
section
variable {T:Tab}{sh:Shr}{nx0:Nat}{s:List Fr}{t:ai}{h:ab}{z:Frz}{nx:Nat}{q:Ex->ai->ab->Frz->Nat->Prop}
variable {base i:Nat}{res:List Nat}{dst:Nat}{g:Gd}{rest:List KOper}
theorem atCvF {k:IntKind}{x:X}{b:Nat}{n:Int}(a:x.ev t=.float .f64 b)(c:(FloatKind.f64.decode b).toInt .zero=some n)(d:k.min<=n/\n<=k.max)
 (e:wpM T sh nx0 (.ops base res rest::s) .normal (upd t dst (.int k n)) h z nx q):
 wpM T sh nx0 (.ops base res (⟨i,some dst,none,g,.conv (.int k) x⟩::rest)::s) .normal t h z nx q:=by
 refine bP ?_;simp[kop,a];exact uF c (dC d e)
end
def kH (n:Nat):Nat->Nat->Nat
 |0,r=>r
 |k+1,r=>if(r+2^k) *(r+2^k)<=n then kH n k (r+2^k)else kH n k r
def isq (n:Nat):Nat:=kH n 27 0
theorem IT (n:Nat):∀(k r:Nat),r*r<=n->n<(r+2^k) *(r+2^k)->kH n k r*kH n k r<=n/\n<(kH n k r+1) *(kH n k r+1):=by
 intro k
 induction k with
 |zero=>grind[kH]
 |succ k a=>
  grind[kH]
theorem Dn {n:Nat}(h:n<2^54):isq n*isq n<=n/\n<(isq n+1) *(isq n+1):=
 IT n 27 0 (zB _) (by omega)
theorem oK {a b:Nat}(h:a*a<b*b):a<b:=by
 by_cases c:b<=a
 .exact absurd (z6 c c) (by omega)
 omega
theorem Ug {n r:Nat}(h:n<2^54)(h1:r*r<=n)(a:n<(r+1) *(r+1)):r=isq n:=by
 obtain⟨b,c⟩:=Dn h;have:=oK (zq h1 c);have:=oK (zq b a);omega
theorem UC (n:Nat)(q:n<2^50):PU 84 [.int .i64 n]=some (.int .i64 (isq n)):=by
 obtain⟨y,h,h1,j,h3,s⟩:=Yz n (by omega);refine PS rfl (jA rfl (Yl h1) (atCvF rfl j ⟨by have:IntKind.i64.min= -9223372036854775808:=rfl;omega,by have:IntKind.i64.max=9223372036854775807:=rfl;omega⟩ ?_));refine gg rfl ?_;obtain⟨a,rfl⟩:∃a:Nat,h=a:=⟨h.toNat,by omega⟩;refine aw (S:=fun r:Nat=>([aa n,aa r],[none,none],[0,0])) (C:=fun r=>r<=268435456) (m:=fun r=>r) a (by omega) (by omega) ?_ ?_;rfl;intro r hr N c
 have t:IntKind.i64.wrap ((r:Int) *r)=((r*r:Nat):Int):=by
  have k:r*r<=268435456*268435456:=z6 hr hr;exact um (by omega)
 refine jC rfl (fun d=>?_) (fun d=>?_)
 .rw[ad]at d;have l:r≠0:=by grind
  have i:IntKind.i64.wrap ((r:Int)-1)=((r-1:Nat):Int):=by grind[wrap64]
  exact gE rfl (c (r-1) (by omega) (by omega) (ah rfl tr (by grind[aa])))
 rw[af]at d;have e:r*r<=n:=by omega
 refine gE rfl (gg rfl (aw (S:=fun r:Nat=>([aa n,aa r],[none,none],[0,0])) (C:=fun r=>r*r<=n) (m:=fun r=>n-r) r e (by omega) ?_ ?_));rfl;intro r hr N c;have b:r<33554432:=oK (by omega);have i:=wS (n:=r)
 have o:IntKind.i64.wrap (((r+1:Nat):Int) *((r+1:Nat):Int))=(((r+1) *(r+1):Nat):Int):=by
  have k:(r+1) *(r+1)<=33554432*33554432:=z6 b b;exact um (by omega)
 refine gg rfl ?_;rw[i,o];refine an rfl (fun f=>?_) (fun f=>?_)
 .rw[bk]at f;have g:(r+1) *(r+1)<=n:=by omega
  have p:r<n:=by
   grind
  exact gE rfl (c (r+1) g (by omega) (ah rfl tr (by grind[aa])))
 rw[aW]at f;refine gE rfl (jF rfl ?_);grind[Ug]
def dI {α:Type}(d:α)(n:Nat)(f:Nat->α)(k:Nat):List α:=(List.range n).map fun i=>if i<k then f i else d
theorem sA {α:Type}(d:α)(n:Nat)(f:Nat->α):dI d n f 0=List.replicate n d:=by
 unfold dI;apply zp<;>simp
theorem tL {α:Type}(d:α)(n:Nat)(f:Nat->α):dI d n f n=(List.range n).map f:=by
 simp_all[dI]
theorem kj {α:Type}(d:α)(n:Nat)(f:Nat->α)(k:Nat):(dI d n f k).length=n:=by simp[dI]
theorem tg {α:Type}(d:α){n:Nat}(f:Nat->α){k:Nat}(h:k<n):(dI d n f k).set k (f k)=dI d n f (k+1):=by
 unfold dI;apply zp;simp;grind
section
variable {T:Tab}{sh:Shr}{nx0:Nat}{s:List Fr}{t:ai}{h:ab}{z:Frz}{nx:Nat}{q:Ex->ai->ab->Frz->Nat->Prop}
variable {base i:Nat}{res:List Nat}{g:Gd}{rest:List KOper}
theorem gp {α:Type}{enc:α->D}{b:Bool}{a v:X}{c:Option Nat}{id d n:Nat}(L:List α)(k:Nat)(w:α)(j:a.ev t=.ptr id d 0)(p:v.ev t=enc w)(f:d=k)
 (r:(Nat.beq (enc w).cells.length n&&(enc w).sto)=true) (u:∀x:α,sC (enc x) 0 (enc w).cells=some (enc w))
 (hr:g.h base h id=some (.row (L.map enc) n)) (l:g.z base z id<=k) (m:k<L.length)
 (o:wpM T sh nx0 (.ops base res rest::s) .normal (put t c (.tup [])) (upd h id (some (.row ((L.set k w).map enc) n))) z nx q):
 wpM T sh nx0 (.ops base res (⟨i,c,none,g,.store b n a v⟩::rest)::s) .normal t h z nx q:=by
 subst f;refine dq (e:=enc L[d]) (e':=enc w) j (by grind) hr l (eP m) (by grind) ?_;rw[<-List.map_set];exact o
end
def sqd (a b:Spot):Nat:=((b.x-a.x) *(b.x-a.x)+(b.y-a.y) *(b.y-a.y)).toNat
def WS (a b:Spot)(w:Int):Spot:=⟨dl (w*(b.y-a.y)) (isq (sqd a b)),dl (-w*(b.x-a.x)) (isq (sqd a b))⟩
def ml (p:Rp)(a:List Int)(b:Int)(i:Nat):Spot:=WS (pt p i) (pt p ((i+1)%p.length)) (b*wd a i)
def tK (p:Rp)(a:List Int)(b:Int):Rp:=(List.range p.length).map (ml p a b)
def eF (w:Int):Bool:=decide (w<0) ||decide (500<w)
def gw (l:List Edge)(a:List Int):Rp×Int:=
 if cK l=0 then
  if a.length=l.length then
   if a.any eF then([],3)else(tK (bJ l) (ct l a l.length) (sgn (eL (bJ l))),0)
  else([],1)
 else([],cK l)
def oF (r:Rp×Int):D:=.tup [ac r.1,.int .i64 r.2]
theorem tW (a b:Spot):((sqd a b:Nat):Int)=(b.x-a.x) *(b.x-a.x)+(b.y-a.y) *(b.y-a.y):=by
 unfold sqd;have h1:=sr (b.x-a.x);have c:=sr (b.y-a.y);omega
theorem N6 (a b:Spot) [OkS a] [OkS b]:sqd a b<2^50:=by
 have e:=tW a b;have c:Bd ((b.x-a.x) *(b.x-a.x)+(b.y-a.y) *(b.y-a.y)) _:=inferInstance;have:=c.le;omega
theorem Kx {x:Int}(h:x≠0):0<x*x:=by
 rcases wZ h with h|h
 .have:=Int.mul_pos (show 0< -x by omega) (show 0< -x by omega);grind
 simp_all[Int.mul_pos]
theorem I9 {a b:Spot}(h:a≠b):0<sqd a b:=by
 have e:=tW a b;have h1:=sr (b.x-a.x);have f:=sr (b.y-a.y);by_cases d:b.x-a.x=0
 .have c:b.y-a.y≠0:=fun c=>h (by cases a;cases b;grind);have:=Kx c;omega
 have:=Kx d;omega
theorem HT {n:Nat}(h:n<2^54)(h0:0<n):0<isq n:=by
 obtain⟨_,a⟩:=Dn h;grind
theorem isq_le {n:Nat}(h:n<2^50):isq n<33554432:=by
 obtain⟨h1,_⟩:=Dn (n:=n) (by omega);exact oK (by omega)
theorem Ma {p:Rp}(a:je p)(d:2<=p.length){i:Nat}(hi:i<p.length):pt p i≠pt p ((i+1)%p.length):=by
 intro b;by_cases c:i+1<p.length
 .rw[zU c]at b;refine a.1 (i+1) c ?_;grind[bc,List.mem_iff_getElem]
 have:i+1=p.length:=by omega
 rw[this,vC]at b;refine a.1 i hi ?_;grind[bc,List.mem_iff_getElem]
theorem K1 (l:List Edge)(a:List Int):∀k,k<=a.length->∀x∈ct l a k,x∈a:=by
 intro k
 induction k with
 |zero=>simp[ct]
 |succ k b=>
  grind[ct,wd]
theorem Td {w:Int}(h:eF w=false):0<=w/\w<=500:=by grind[eF]
theorem uO {a b:Int}{m:Nat}(e:0<b)(h1: -(m:Int)<=a)(f:a<=m): -(m:Int)<=dl a b/\dl a b<=m:=by
 have key:∀x:Int,0<=x->x<=m->0<=(2*x+b)/(2*b)/\(2*x+b)/(2*b)<=m:=by
  intro x h0 g;refine⟨xm (by omega) (by omega),?_⟩;by_cases c:x=0
  .rw[Int.ediv_eq_zero_of_lt (by omega) (by omega)];omega
  have d:2*x+b<(x+1) *(2*b):=by
   have:x*(2*b)>=x*2:=xO (by omega) h0;grind
  have:=Int.ediv_lt_of_lt_mul (by omega) d;omega
 grind[dl]
theorem Vj (l:List Edge)(b:List Int):
 PU 42 [edges l,ints b]=some (oF (gw l b)):=by
 have c:=LG l;refine PS rfl (gg rfl ?_);by_cases q:¬cK l=0
 .rw[rF,vd q]at c;refine aB rfl rfl c (jC rfl (fun g=>?_) (fun g=>?_))
  .refine jF rfl ?_;rw[gw,vd q];rfl
  rw[aE]at g;exact absurd g q
 have q:cK l=0:=xi q;rw[rF,ve q]at c;rw[gw,ve q];obtain⟨h2,Y,_,_,r⟩:=qC q;obtain⟨v3,Z,a0,a1,vs⟩:=fj r;have E:∀e∈l,1<=e.line.length/\e.line.length<=100000:=fun e he=>by grind[Ae]
 refine aB rfl rfl c (jC rfl (fun g=>?_) (fun g=>?_))
 .rw[aO]at g;exact absurd rfl g
 refine gg rfl ?_;rw[zA,zA];refine an rfl (fun g=>?_) (fun g=>?_)
 .rw[aO]at g;refine jF rfl ?_;rw[eE];rfl
 rw[aE]at g;have F:b.length=l.length:=by omega
 rw[ve F];refine gg rfl (aw (S:=fun k:Nat=>([edges l,ints b,ac (bJ l),ints b,aa b.length,aa k],none::nn5,zz6)) (C:=fun k=>k<=b.length/\∀i (hi:i<b.length),i<k->eF b[i]=false) (m:=fun k=>b.length-k) 0 ⟨zB _,fun i hi h=>by omega⟩ (by omega) ?_ ?_)
 .exact ah rfl tr (by simp[edges,ints,ac,aa])
 intro k ⟨hk,V⟩ N G;refine jC rfl (fun H=>?_) (fun H=>?_)
 .rw[ad]at H;have d:k<b.length:=by omega
  have w1:=wS (n:=k)
  have I:eF b[k]=false->∀{t:ai} {h:ab} {z:Frz} {nx:Nat},(bz 0 [(0,0),(1,0),(6,0),(33,0),(34,0),(35,0)] t h z nx fun _ _ kp=>kp=([edges l,ints b,ac (bJ l),ints b,aa b.length,aa ((k+1:Nat):Int)],none::nn5,zz6))->N t h z nx:=by
   grind
  have W:eF b[k]=true->b.any eF=true:=fun hb=>xc.2 ⟨_,zE d,hb⟩;refine jX k rfl rfl (eP d) rfl (gg rfl (au rfl (fun J=>?_) (fun J=>?_)))
  .rw[ad]at J;refine gg rfl (ak rfl (gE rfl (jF rfl ?_)));rw[ve (W (by grind[eF]))];rfl
  rw[af]at J;refine jC rfl (fun K=>?_) (fun K=>?_)
  .rw[ad]at K;refine gE rfl (jF rfl ?_);rw[ve (W (by grind[eF]))];rfl
  rw[af]at K;exact gE rfl (I (by grind[eF]) (ah rfl tr (by grind[edges,ints,ac,aa])))
 rw[af]at H;clear G
 have L:b.any eF=false:=by
  grind[List.getElem_of_mem]
 rw[vd (by grind)]
 have p:∀x∈b,0<=x/\x<=500:=fun x hx=>Td (by
  grind)
 have s:=D0 l b l.length (zD _);rw[zH]at s;refine gE rfl (jA rfl (BL (bJ l)) (jA rfl (HI l b (by omega) E (by omega) (by omega)) ?_));refine gg rfl ?_
 have u:∀i,0<=wd (ct l b l.length) i/\wd (ct l b l.length) i<=500:=by
  intro i;by_cases hi:i<(ct l b l.length).length
  .have:wd (ct l b l.length) i=(ct l b l.length)[i]:=by grind[wd]
   rw[this];exact p _ (K1 l b l.length (by omega) _ (zE _))
  grind[wd]
 generalize hv:bJ l=v at*;generalize ct l b l.length=a at*;have a5: -1<=sgn (eL v)/\sgn (eL v)<=1:=by have:=(C2 (eL v)).le;omega
 generalize sgn (eL v)=f at*;rw[zA];refine eu v.length rfl rfl rfl (by grind[aK]) ?_
 have ez:List.replicate v.length (D.agg [D.int IntKind.i64 0,D.int IntKind.i64 0])=(dI ⟨0,0⟩ v.length (ml v a f) 0).map Spot.enc:=by
  simp[sA,Spot.enc]
 rw[ez];refine gg rfl (aw (S:=fun k:Nat=>([ac v,.int .i64 f,ints a,.ref 3 0 v.length,ac v,aa v.length,aa k],none::none::none::some (.row ((dI ⟨0,0⟩ v.length (ml v a f) k).map Spot.enc) 2)::nn3,zz7)) (C:=fun k=>k<=v.length) (m:=fun k=>v.length-k) 0 (zB _) (by omega) ?_ ?_)
 .exact ah rfl ⟨ae am _,tr⟩ (by simp[ac,ints,aa])
 intro k hk N G;refine jC rfl (fun M=>?_) (fun M=>?_)
 .rw[ad]at M;have d:k<v.length:=by omega
  have w1:=wS (n:=k);have O:=Ma vs (by omega) d;have u:=u k;have A:=N6 (pt v k) (pt v ((k+1)%v.length));have P:=I9 O;have a7:=HT (n:=sqd (pt v k) (pt v ((k+1)%v.length))) (by omega) P;have a8:=isq_le A;have a9:=tW (pt v k) (pt v ((k+1)%v.length));have X:=tg ⟨0,0⟩ (ml v a f) d;have Q:ml v a f k=⟨dl (f*wd a k*((pt v ((k+1)%v.length)).y-(pt v k).y)) (isq (sqd (pt v k) (pt v ((k+1)%v.length)))),dl (-(f*wd a k) *((pt v ((k+1)%v.length)).x-(pt v k).x)) (isq (sqd (pt v k) (pt v ((k+1)%v.length))))⟩:=rfl;have bx:Bd ((pt v ((k+1)%v.length)).x-(pt v k).x) 8388608:=inferInstance;have b0:Bd ((pt v ((k+1)%v.length)).y-(pt v k).y) 8388608:=inferInstance;have c1:IntKind.i64.wrap ((pt v ((k+1)%v.length)).x-(pt v k).x)=(pt v ((k+1)%v.length)).x-(pt v k).x:=cH (by decide);have c2:IntKind.i64.wrap ((pt v ((k+1)%v.length)).y-(pt v k).y)=(pt v ((k+1)%v.length)).y-(pt v k).y:=cH (by decide);have bw:Bd (wd a k) 500:=⟨by omega⟩;have bs:Bd f 1:=⟨by omega⟩;have c3:IntKind.i64.wrap (f*wd a k)=f*wd a k:=cH (by decide);generalize R:(pt v ((k+1)%v.length)).x-(pt v k).x=j at*;generalize T:(pt v ((k+1)%v.length)).y-(pt v k).y=o at*;generalize U:f*wd a k=w at*;have B:Bd w 500:=by grind[Cz]
  have c4:IntKind.i64.wrap (j*j)=j*j:=cH (by decide);have c5:IntKind.i64.wrap (o*o)=o*o:=cH (by decide);have c6:IntKind.i64.wrap (j*j+o*o)=((sqd (pt v k) (pt v ((k+1)%v.length)):Nat):Int):=by grind[cH]
  have c7:IntKind.i64.wrap (w*o)=w*o:=cH (by decide);have c8:IntKind.i64.wrap (0-w)= -w:=by rw[wrap64 (by have:=B.le;omega) (by have:=B.le;omega)];omega
  have c9:IntKind.i64.wrap (-w*j)= -w*j:=cH (by decide);have b7:Bd (w*o) _:=Cz;have b9:Bd (-w*j) _:=Cz;have l7:=b7.le;have l9:=b9.le;refine jX k rfl rfl (aZ d) rfl (gg rfl (dx rfl rfl (by grind) ?_));refine jX ((k+1)%v.length) rfl (by grind) (aZ (zI _ (by omega))) rfl ?_;refine jX k rfl rfl (Dz (by omega)) rfl ?_;refine gg rfl ?_;rw[R,T,c1,c2,U,c3,c4,c5,c6];refine aB rfl rfl (UC _ A) (gg rfl ?_);rw[c7];refine aB rfl rfl (LL (w*o) _ (by omega) (by omega) (by omega) (by omega)) ?_;refine gg rfl ?_;rw[c8,c9];refine aB rfl rfl (LL (-w*j) _ (by omega) (by omega) (by omega) (by omega)) ?_;refine gg rfl (aA k rfl rfl rfl rfl rfl d (gp (enc:=Spot.enc) (dI ⟨0,0⟩ v.length (ml v a f) k) k (ml v a f k) rfl (by rw[Q];rfl) (zC _) rfl (fun _=>rfl) rfl (zB _) (by grind[kj]) ?_));exact gE rfl (G (k+1) d (by omega) (ah rfl ⟨ae am _,tr⟩ (by grind[ac,ints,aa])))
 rw[af]at M;obtain rfl:k=v.length:=by omega
 refine gE rfl (gg rfl (cS rfl rfl rfl ⟨bK (by simp[kj]) (bF fh _),tr⟩ ?_));rw[bZ (by simp[kj]),tL];rfl
end Go.F
