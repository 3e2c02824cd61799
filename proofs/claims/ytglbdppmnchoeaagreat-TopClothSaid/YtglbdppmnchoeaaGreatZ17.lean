/- Part 17. -/
import Derived.Test.YtglbdppmnchoeaaGreatZ9
import GoSem.ClaimJoined
namespace Go.F
inductive Sh where
 |bool
 |int (k:IntKind)
 |str
 |sl (e:Sh)
 |st (fs:List Sh)
def mkD (s:Sh)(cs:Hm):D:=
 match s with
 |.st _=> .agg cs
 |_=>cs.headD .bad
inductive HasC:Sh->Hm->Prop
 |bool (b:Bool):HasC .bool [.bool b]
 |int (k:IntKind) (n:Int) (h:k.min<=n/\n<=k.max):HasC (.int k) [.int k n]
 |str (s:ByteArray) (h:s.size<=maxLen) (hr:s.size<=reachBytes):HasC .str [.str s]
 |sl (e:Sh) (es:List Hm) (hl:es.length<=maxLen) (h:∀x∈es,HasC e x) (hr:es.length<=reachBytes):HasC (.sl e) [.lst (es.map (mkD e))]
 |st0:HasC (.st []) []
 |stc (s:Sh) (ss:List Sh) (x xs:Hm) (h:HasC s x) (hs:HasC (.st ss) xs):HasC (.st (s::ss)) (x++xs)
def vv (P:Program):List Field->Nat->Nat->Bool
 |[],o,a=>Nat.beq o a
 |f::b,o,a=>Nat.beq f.offset o&&vv P b (o+P.cellsOf f.type) a
def fa (P:Program):Nat->TypeId->Option Sh
 |0,_=>none
 |n+1,t=>
  match P.underlying t with
  |some .bool=>some .bool
  |some (.int k)=>some (.int k)
  |some .string=>some .str
  |some (.slice e)=>if 0<P.cellsOf e/\0<P.bytesOf e then(fa P n e).map .sl else none
  |some (.struct a)=>if vv P a.toList 0 (P.cellsOf t)then(a.toList.mapM fun f=>fa P n f.type).map .st else none
  |some (.array k e)=>if k*P.cellsOf e=P.cellsOf t then(fa P n e).map fun s=> .st (List.replicate k s)else none
  |_=>none
theorem HasC.one {s:Sh}{l:Hm}(h:HasC s l):∀x∈l,x.one=true:=by
 induction h with
 |bool b=>simp[D.one]
 |int k n _=>simp[D.one]
 |str s _ _=>simp[D.one]
 |sl e es _ _ _ _=>simp[D.one]
 |st0=>simp
 |stc s d x f _ _ a c=>grind
theorem K0 {s:Sh}{l:Hm}(h:HasC s l):(mkD s l).cells=l:=by
 cases h<;>rfl
section
variable {H:Type}{enc:TypeId×Value->H}{P:Program}{w:World}{base:Nat}{spare:Nat->Bool}{held:Bool}
abbrev prW (w:World):aM:=fun b _=>b<w.heap.size
theorem cells?_spec {a:Addr}{n:Nat}{cs:List Value}(h:w.cells? base a n=some cs):cs.length=n/\∀j (_:j<n) (b:j<cs.length),w.cell? (a.add j)=some cs[j]:=by
 unfold World.cells? at h;grind[qh,List.length_range]
theorem cell?_spot {a:Addr}{v:Value}(h:w.cell? a=some v):a.spot=none/\a.block<w.heap.size:=by
 unfold World.cell? at h;split at h
 .rename_i c _ _ b;split at h
  grind
  .exact⟨by simp_all,(zS.1 b).1⟩
 grind
theorem Cells.nil {m:Map}{pr:aM}:Cells m pr w [] []:=⟨rfl,fun k h=>by simp,by simp⟩
theorem SE {n a:Nat}(v:∀t s cs x,fa P n t=some s->DataW.trod enc P w base spare held a t cs=some x->(∀m∈x.1.weights P t,m<=reachBytes)->∃d,HasC s d/\Cells aS (prW w) w d cs)(cs:List Value):
 ∀(b:List Field) (o:Nat) (i:List Sh) (j:List (DataW H×List MemPlace)),vv P b o cs.length=true->b.mapM (fun f=>fa P n f.type)=some i->
  b.mapM (fun f=>DataW.trod enc P w base spare held a f.type ((cs.drop f.offset).take (P.cellsOf f.type)))=some j->(∀m∈DataW.weightsEach P (b.map (·.type)) (j.map (·.1)),m<=reachBytes)->∃d,HasC (.st i) d/\Cells aS (prW w) w d (cs.drop o):=by
 intro b
 induction b with
 |nil=>
  intro o i j e g _ _;simp at g;subst g;have:=zl e;refine⟨[],.st0,?_⟩;grind[Cells.nil]
 |cons f b k=>
  intro o i j e g p l;simp only[vv,zJ]at e;have h:=zl e.1
  cases h1:fa P n f.type with
  |none=>grind
  |some s=>
   cases q:b.mapM (fun f=>fa P n f.type)with
   |none=>grind
   |some y=>
    simp[h1,q]at g;subst g
    cases h3:DataW.trod enc P w base spare held a f.type ((cs.drop f.offset).take (P.cellsOf f.type))with
    |none=>grind
    |some x=>
     cases r:b.mapM (fun f=>DataW.trod enc P w base spare held a f.type ((cs.drop f.offset).take (P.cellsOf f.type)))with
     |none=>grind
     |some z=>
      simp[h3,r]at p;subst p;simp[DataW.weightsEach]at l;obtain⟨d1,c1,u⟩:=v _ _ _ _ h1 h3 fun m c=>l m (.inl c);obtain⟨d2,c2,A⟩:=k _ _ _ e.2 q r fun m c=>l m (.inr c);refine⟨d1++d2,.stc _ _ _ _ c1 c2,?_⟩
      have:cs.drop o=(cs.drop o).take (P.cellsOf f.type)++cs.drop (o+P.cellsOf f.type):=by
       rw[<-xw,wA]
      rw[this];rw[h]at u;exact u.append A
theorem TD {n a:Nat}{e:TypeId}{s:Sh}(l:∀t s cs x,fa P n t=some s->DataW.trod enc P w base spare held a t cs=some x->(∀m∈x.1.weights P t,m<=reachBytes)->∃c,HasC s c/\Cells aS (prW w) w c cs)(p:fa P n e=some s)(cs:List Value):
 ∀(k o:Nat) (d:List (DataW H×List MemPlace)),(o+k) *P.cellsOf e=cs.length->
  ((List.range' o k).mapM fun i=>DataW.trod enc P w base spare held a e ((cs.drop (i*P.cellsOf e)).take (P.cellsOf e)))=some d->(∀m∈DataW.weightsAll P e (d.map (·.1)),m<=reachBytes)->∃c,HasC (.st (List.replicate k s)) c/\Cells aS (prW w) w c (cs.drop (o*P.cellsOf e)):=by
 intro k
 induction k with
 |zero=>
  intro o d q _ _;refine⟨[],.st0,?_⟩;grind[Cells.nil]
 |succ k f=>
  intro o d q g h;simp[xb]at g
  cases h3:DataW.trod enc P w base spare held a e ((cs.drop (o*P.cellsOf e)).take (P.cellsOf e))with
  |none=>grind
  |some x=>
   cases j:(List.range' (o+1) k).mapM (fun i=>DataW.trod enc P w base spare held a e ((cs.drop (i*P.cellsOf e)).take (P.cellsOf e)))with
   |none=>grind
   |some r=>
    simp[h3,j]at g;subst g;simp[DataW.weightsAll]at h;obtain⟨d1,c1,u⟩:=l _ _ _ _ p h3 fun m b=>h m (.inl b);obtain⟨d2,c2,v⟩:=f (o+1) _ (by grind) j fun m b=>h m (.inr b);refine⟨d1++d2,by exact .stc _ _ _ _ c1 c2,?_⟩
    have:cs.drop (o*P.cellsOf e)=(cs.drop (o*P.cellsOf e)).take (P.cellsOf e)++cs.drop ((o+1) *P.cellsOf e):=by
     rw[y3,<-xw,wA]
    rw[this];exact u.append v
theorem Tn {s:Sh}{a:Addr}{len cap c:Nat}(E:0<c)(N:len<=cap)
 (F:∀i,i<len->∃A d,w.cells? base (a.add (i*c)) c=some d/\HasC s A/\Cells aS (prW w) w A d):
 ∃es:List Hm,es.length=len/\(∀x∈es,HasC s x)/\VR aS (prW w) w (.lst (es.map (mkD s))) (.slice (some a) len cap):=by
 have n:∀m,m<=len->∃es:List Hm,es.length=m/\∀i (hi:i<es.length),∃d,w.cells? base (a.add (i*c)) c=some d/\HasC s es[i]/\Cells aS (prW w) w es[i] d:=by
  intro m
  induction m with
  |zero=>simp
  |succ m G=>
   intro U;obtain⟨es,h1,B⟩:=G (by omega);obtain⟨A,d,f,H,C⟩:=F m (by omega);refine⟨es++[A],by grind,fun i hi=>?_⟩;grind
 obtain⟨es,h1,B⟩:=n len (zD _)
 have p:∀x∈es,HasC s x:=fun x R=>by
  grind[List.mem_iff_getElem]
 refine⟨es,h1,p,?_⟩;by_cases I:len=0
 .subst I;have:es=[]:=by grind
  subst this;exact .lst0 _ _
 have h:a.spot=none:=by
  obtain⟨d,f,_,_⟩:=B 0 (by omega);obtain⟨S,J⟩:=cells?_spec f;have:=J 0 E (by omega);have T:(a.add (0*c)).add 0=a:=by simp[Addr.add]
  rw[T]at this;exact(cell?_spot this).1
 obtain⟨b,o,V⟩:=a;subst h
 have O:∀i (hi:i<es.length),(es[i]).length=c:=fun i hi=>by
  obtain⟨d,f,_,C⟩:=B i hi;rw[C.len,(cells?_spec f).1]
 have l:∀e∈es.map (mkD s),e.cells.length=c:=by
  grind[K0,List.mem_iff_getElem]
 have K:=cY l;rw[zA,h1]at K
 have q:∀k (r:k<(fl (es.map (mkD s))).length),∃v,w.cell? ⟨b,o+k,none⟩=some v/\VR aS (prW w) w (fl (es.map (mkD s)))[k] v/\(fl (es.map (mkD s)))[k].one=true:=by
  intro k r;have t:k/c<es.length:=by simp_all[ym,zx]
  have g:k%c<c:=zI _ E;have u:k/c*c+k%c=k:=by simp[zx,yH]
  obtain⟨d,f,H,C⟩:=B (k/c) t;obtain⟨S,J⟩:=cells?_spec f;have P:=J (k%c) g (by omega);rw[dW,dW,yG,u]at P;have y:(es.map (mkD s))[k/c]?=some (mkD s es[k/c]):=by grind
  have L:=fO l y (j:=k%c) g;rw[u,K0 H]at L;have z:k%c<es[k/c].length:=by grind
  rw[zK r,zK z]at L;have M:=xG L;rw[M];exact⟨_,P,C.vr _ z (by omega),H.one _ (zE _)⟩
 have Q:VR aS (prW w) w (.lst (es.map (mkD s))) (.slice (some ⟨b,o,none⟩) (es.map (mkD s)).length cap):=by
  refine .lst _ b o cap c (fun k=>(w.cell? ⟨b,o+k,none⟩).getD undef) (fun W=>by simp_all) l E (by grind) (fun k r=>?_) (fun k r=>?_) (fun x R=>?_)
  .obtain⟨v,f,_,_⟩:=q k r;simp[f];exact(cell?_spot f).2
  grind;grind[List.mem_iff_getElem]
 grind
theorem one_cell {d:D}{v:Value}(a:VR aS (prW w) w d v)(h1:d.one=true):Cells aS (prW w) w [d] [v]:=
 ⟨rfl,fun k b h3=>by
   grind,by grind⟩
theorem HC {e:TypeId}{d:DataW H}{m:Nat}(b:m∈d.weights P e):∀{a:List (DataW H)},d∈a->m∈DataW.weightsAll P e a
 |[],h=>by grind
 |d0::a,h=>by
  rw[DataW.weightsAll,za];rcases zP.1 h with rfl|h
  grind
  .exact .inr (HC b h)
theorem read:∀(n:Nat) (t:TypeId) (s:Sh) (c:Nat) (cs:List Value) (x:DataW H×List MemPlace),fa P n t=some s->DataW.trod enc P w base spare held c t cs=some x->(∀m∈x.1.weights P t,m<=reachBytes)->∃r,HasC s r/\Cells aS (prW w) w r cs:=by
 intro n
 induction n with
 |zero=>simp[fa]
 |succ n G=>
  intro t s c cs x h b g
  cases c with
  |zero=>trivial
  |succ c=>
   simp only[fa]at h;split at h
   .rename_i d;cases h;rcases cs with _|⟨v,_|⟨y,rest⟩⟩
    .simp[DataW.trod,d]at b
    .cases v<;>first|(simp[DataW.trod,d]at b;done) |exact⟨_,.bool _,one_cell (.bool _) rfl⟩
    simp[DataW.trod,d]at b
   .rename_i k d;cases h;rcases cs with _|⟨v,_|⟨y,rest⟩⟩
    .simp[DataW.trod,d]at b
    .cases v<;>first|(simp[DataW.trod,d]at b;done) |skip
     simp only[DataW.trod,d]at b;split at b
     .rename_i p;obtain⟨rfl,q⟩:=p;simp[Lit.wf]at q;exact⟨_,.int _ _ q,one_cell (.int _ _) rfl⟩
     grind
    simp[DataW.trod,d]at b
   .rename_i d;cases h;rcases cs with _|⟨v,_|⟨y,rest⟩⟩
    .simp[DataW.trod,d]at b
    .cases v<;>first|(simp[DataW.trod,d]at b;done) |skip
     simp only[DataW.trod,d]at b;split at b
     .rename_i p;simp at b;subst b;refine⟨_,.str _ p ?_,one_cell (.str _) rfl⟩;have:=g _ (by exact z8.2 rfl);simp_all
     grind
    simp[DataW.trod,d]at b
   .rename_i e d;split at h
    .rename_i j
     cases z:fa P n e with
     |none=>grind
     |some u=>
      simp[z]at h;subst h
      have A:(cs=[.slice none 0 0])\/∃a len cap,cs=[.slice (some a) len cap]:=by
       rcases cs with _|⟨v,_|⟨y,rest⟩⟩
       .simp[DataW.trod,d]at b
       .cases v<;>first|(simp[DataW.trod,d]at b;done) |skip
        rename_i K len cap
        cases K with
        |some a=>simp
        |none=>
         match len,cap,b with
         |0,0,_=>simp
         |0,_+1,b=>simp[DataW.trod,d]at b
         |_+1,_,b=>simp[DataW.trod,d]at b
       simp[DataW.trod,d]at b
      rcases A with rfl|⟨a,len,cap,rfl⟩
      .exact⟨_,.sl u [] (by simp) (by simp) (by simp),one_cell (.lst0 _ _) rfl⟩
      simp only[DataW.trod,d]at b;split at b
      .rename_i p
       cases l:(List.range len).mapM (fun i=>(w.cells? base (a.add (i*P.cellsOf e)) (P.cellsOf e)).bind (DataW.trod enc P w base spare held c e))with
       |none=>grind
       |some o=>
        obtain⟨I,T⟩:=qh l;rw[List.length_range]at I
        obtain⟨rest,B⟩:∃rest,x.1=.slice (o.map (·.1)) rest:=by
         grind[Option.map_eq_some_iff]
        rw[B]at g;simp only[DataW.weights,d,zP]at g
        have J:len<=reachBytes:=by
         have h1:=g _ (.inl rfl);rw[zA,I]at h1;exact zR (zR (Nat.le_add_right _ _) (w7 _ j.2)) h1
        obtain⟨es,U,L,M⟩:=Tn (s:=u) j.1 p.2.1 (fun i hi=>by
         cases N:w.cells? base (a.add (i*P.cellsOf e)) (P.cellsOf e)with
         |none=>grind
         |some O=>
          grind[HC])
        exact⟨_,.sl u es (by omega) L (by omega),one_cell M rfl⟩
      grind
    grind
   .rename_i C d;split at h
    .cases D:C.toList.mapM (fun f=>fa P n f.type)with
     |none=>grind
     |some Q=>
      simp only[DataW.trod,d]at b;split at b
      .cases l:C.toList.mapM (fun f=>DataW.trod enc P w base spare held c f.type ((cs.drop f.offset).take (P.cellsOf f.type)))with
       |none=>grind
       |some E=>
        rw[l]at b;simp at b;subst b;simp only[DataW.weights,d]at g;obtain⟨r,R,S⟩:=SE (fun t s cs x h1 F h3=>G t s c cs x h1 F h3) cs C.toList 0 Q E (by grind) D l g;grind
      grind
    grind
   .rename_i k e d;split at h
    .cases z:fa P n e with
     |none=>grind
     |some u=>
      simp only[DataW.trod,d]at b;split at b
      .cases l:(List.range k).mapM (fun i=>DataW.trod enc P w base spare held c e ((cs.drop (i*P.cellsOf e)).take (P.cellsOf e)))with
       |none=>grind
       |some E=>
        rw[l]at b;simp at b;subst b;simp only[DataW.weights,d]at g;rw[xI]at l;obtain⟨r,R,S⟩:=TD (fun t s cs x h1 F h3=>G t s c cs x h1 F h3) z cs k 0 E (by grind) l g;grind
      grind
    grind
   grind
theorem read_arg {n:Nat}{t:TypeId}{s:Sh}{v:Value}{d:DataW H}{ps:List MemPlace}(j:fa P n t=some s)(i:(∃cs,v=.agg cs)↔∃c,s=.st c)(l:DataW.Trod enc P w base spare held t v d ps)(f:∀m∈d.weights P t,m<=reachBytes):∃a,HasC s a/\VR aS (prW w) w (mkD s a) v:=by
 obtain⟨b,o⟩:=l;obtain⟨a,h1,e⟩:=read n t s b _ _ j o f;refine⟨a,h1,?_⟩
 cases s with
 |st c=>
  obtain⟨cs,rfl⟩:=i.2 ⟨c,rfl⟩;refine .agg a cs ?_ ?_ h1.one
  .simpa[Value.cells]using e.len
  intro k p q;have:=e.vr k p (by trivial);trivial
 |_=>
  have g:v.cells.toList=[v]:=by
   cases v<;>first|rfl|(exfalso;obtain⟨c,h⟩:=i.1 ⟨_,rfl⟩;cases h)
  rw[g]at e;cases h1<;>exact e.vr 0 (by simp) (by simp)
end
end Go.F
