/- Part 19. -/
import Derived.Test.YtglbdppmnchoeaaGreatZ1
namespace Go.F
def Evt (p:Nat->Prop):Prop:=∃N,∀M,N<=M->p M
theorem Evt.all {p:Nat->Prop}(h:∀M,p M):Evt p:=⟨0,fun M _=>h M⟩
theorem Evt.and {p r:Nat->Prop}(c:Evt p)(hr:Evt r):Evt fun M=>p M/\r M:=by
 obtain⟨a,d⟩:=c;obtain⟨b,e⟩:=hr;exact⟨max a b,fun M f=>⟨d M (by omega),e M (by omega)⟩⟩
theorem Evt.mono {p r:Nat->Prop}(b:Evt p)(h:∀M,p M->r M):Evt r:=by
 obtain⟨a,c⟩:=b;exact⟨a,fun M d=>h M (c M d)⟩
section
variable {pu:Pure}{pus:Nat->Pure}
theorem Evt.of2 {p q:Nat->Prop}{r:Nat->Prop}(h1:Evt p)(b:Evt q)(h:∀M,p M->q M->r M):Evt r:=(h1.and b).mono fun M a=>h M a.1 a.2
theorem sf (a:∀f args r,pu f args=some r->Evt fun M=>pus M f args=some r){g:FuncId}{x y:D}{n:Int}(h:fH pu g x y=some n):Evt fun M=>fH (pus M) g x y=some n:=by
 grind[fH]
theorem LW (a:∀f args r,pu f args=some r->Evt fun M=>pus M f args=some r){g:FuncId}{x:D}:∀{l r:Hm},iJ pu g x l=some r->Evt fun M=>iJ (pus M) g x l=some r
 |[],r,h=>Evt.all fun M=>h
 |y::l,r,h=>by
  simp only[iJ]at h;split at h
  .rename_i n b;split at h
   .exact(sf a b).mono fun M c=>by simp_all[iJ]
   cases hi:iJ pu g x l with
   |none=>grind
   |some d=>
    exact(sf a b).of2 (LW a hi) fun M h1 e=>by simp_all[iJ,vd]
  grind
theorem CT (a:∀f args r,pu f args=some r->Evt fun M=>pus M f args=some r){g:FuncId}:∀{l r:Hm},jG pu g l=some r->Evt fun M=>jG (pus M) g l=some r
 |[],r,h=>Evt.all fun M=>h
 |x::l,r,h=>by
  simp only[jG]at h;split at h
  .rename_i c b;exact(CT a b).of2 (LW a h) fun M h1 d=>by grind[jG]
  grind
theorem TO (c:∀f args r,pu f args=some r->Evt fun M=>pus M f args=some r){g:FuncId}{x y:D}(h:jB pu g x y=true):Evt fun M=>jB (pus M) g x y=true:=by
 unfold jB at h;rw[xF]at h;rcases h with h|h
 grind[Evt.all,jB]
 .split at h
  .rename_i a b d e;exact(sf c d).of2 (sf c e) fun M h1 i=>by simp_all[jB]
  grind
theorem Fl (a:∀f args r,pu f args=some r->Evt fun M=>pus M f args=some r){g:FuncId}{x:D}:∀{l:Hm},l.all (jB pu g x)=true->Evt fun M=>l.all (jB (pus M) g x)=true
 |[],_=>Evt.all fun M=>rfl
 |y::l,h=>by
  rw[xl,zJ]at h;exact(TO a h.1).of2 (Fl a h.2) fun M h1 b=>by grind
theorem EG (b:∀f args r,pu f args=some r->Evt fun M=>pus M f args=some r){g:FuncId}:∀{l:Hm},okS pu g l=true->Evt fun M=>okS (pus M) g l=true
 |[],_=>Evt.all fun M=>rfl
 |x::l,h=>by
  simp only[okS,zJ]at h;obtain⟨⟨h1,c⟩,h3⟩:=h;split at h1
  .rename_i a d;exact((sf b d).and (Fl b c)).of2 (EG b h3) fun M e i=>by simp_all[okS]
  grind
theorem CA (c:∀f args r,pu f args=some r->Evt fun M=>pus M f args=some r){b:FuncId}{a:D}:∀{l r:Hm},ik pu b a l=some r->Evt fun M=>ik (pus M) b a l=some r
 |[],r,h=>Evt.all fun M=>h
 |v::l,r,h=>by
  simp only[ik]at h;split at h
  .rename_i r' h1 d;exact(c _ _ _ h1).of2 (CA c d) fun M e g=>by grind[ik]
  .rename_i r' h1 d;exact(c _ _ _ h1).of2 (CA c d) fun M e g=>by grind[ik]
  grind
theorem C6 (d:∀f args r,pu f args=some r->Evt fun M=>pus M f args=some r){k:List Nat}{args:Hm}{r:D}(h:ib pu k args=some r):Evt fun M=>ib (pus M) k args=some r:=by
 unfold ib at h;split at h
 .rename_i a b c;split at h
  .rename_i x y;unfold kx at h;split at h
   .rename_i m e n;split at h
    .rename_i i;split at h
     .rename_i vs p;split at h
      .rename_i q;split at h
       .rename_i u s;split at h
        .rename_i l t;split at h
         .rename_i j;exact((d _ _ _ n).and (CA d s)).of2 ((CT d t).and (EG d j)) fun M g o=>by simp only[ib,kx,g.1,ve i,p,ve q,g.2,o.1,o.2,if_true];exact h
         cases h
        cases h
       cases h
      cases h
     cases h
    rename_i i;exact(d _ _ _ n).mono fun M g=>by simp only[ib,kx,g,vd i];exact h
   cases h
  cases h
 cases h
theorem Dq (c:∀f args r,pu f args=some r->Evt fun M=>pus M f args=some r){d:List Nat}{args:Hm}{h:ab}{z:Frz}{nx:Nat}{r:D×ab×Frz×Nat}(a:fM pu d args h z nx=some r):Evt fun M=>fM (pus M) d args h z nx=some r:=by
 unfold fM at a;split at a
 .unfold sL at a;split at a
  .rename_i id len g;split at a
   .rename_i es esz e;split at a
    .rename_i i;split at a
     .rename_i m j;split at a
      .rename_i b;exact(CT c j).of2 (EG c b) fun M k l=>by simp only[fM,sL,e,ve i,k,l,if_true];exact a
      cases a
     cases a
    cases a
   cases a
  .exact Evt.all fun M=>a
  cases a
 cases a
end
end Go.F
