/- Part 20. -/
import Derived.Test.YtglbdppmnchoeaaGreatZ19
import Derived.Shelf.SlSortCmp.Insertion
import Derived.Sort.Statements
namespace Go.F.Gv
open Go.Sort Go.Proofs
mutual
theorem eqD_eq:∀{a b:D},eqD a b=true->a=b
 |.bool _,.bool _,h=>by simp[eqD]at h;rw[h]
 |.int _ _,.int _ _,h=>by simp[eqD]at h;grind
 |.str _,.str _,h=>by simp[eqD]at h;rw[h]
 |.lst _,.lst _,h=>zX D.lst (eqL_eq (by trivial))
 |.agg _,.agg _,h=>zX D.agg (eqL_eq (by trivial))
 |.tup _,.tup _,h=>zX D.tup (eqL_eq (by trivial))
theorem eqL_eq:∀{a b:Hm},eqL a b=true->a=b
 |[],[],_=>rfl
 |x::l,y::m,h=>by
  rw[eqL,zJ]at h;rw[eqD_eq h.1,eqL_eq h.2]
end
section
variable {pu:Pure}{g:FuncId}
def ltF (pu:Pure)(g:FuncId)(x y:D):Prop:=∃n,fH pu g x y=some n/\n<0
theorem E3:∀{l:Hm},okS pu g l=true->∀x∈l,∃a,fH pu g x x=some a/\0<=a
 |[],_,x,b=>by grind
 |y::l,h,x,b=>by
  simp[okS]at h;obtain⟨⟨h1,c⟩,h3⟩:=h;rcases zP.1 b with rfl|b
  grind
  .exact E3 h3 x b
theorem Ds:∀{l:Hm},okS pu g l=true->∀p q (d:p<q) (c:q<l.length),l[p]=l[q]\/∃a b,fH pu g l[p] l[q]=some a/\fH pu g l[q] l[p]=some b/\a<0/\0<=b
 |[],_,p,q,_,c=>by grind
 |y::l,h,p,q,d,c=>by
  simp only[okS,zJ]at h;obtain⟨⟨h1,f⟩,h3⟩:=h;obtain⟨q,rfl⟩:∃k,q=k+1:=⟨q-1,by omega⟩
  cases p with
  |succ p=>exact Ds h3 p q (by omega) (by grind)
  |zero=>
   have i:l[q]'(by grind)∈l:=zE _;have:=zM.1 f _ i;unfold jB at this;rw[xF]at this;rcases this with e|e
   grind[eqD_eq];grind
theorem td {l:Hm}(h:okS pu g l=true){p q:Nat}(a:p<l.length)(b:q<l.length):ltF pu g l[p] l[q]↔p<q/\l[p]≠l[q]:=by
 grind[ltF,E3,List.getElem_mem,Ds]
theorem We {l:Hm}(h:okS pu g l=true){x y:D}(a:x∈l)(b:y∈l):∃n,fH pu g x y=some n:=by
 grind[List.mem_iff_getElem,Ds,E3]
theorem Kj {x:D}:∀{l r:Hm},iJ pu g x l=some r->r.Perm (x::l)
 |[],r,h=>by cases h;rfl
 |y::l,r,h=>by
  simp only[iJ]at h;split at h
  .split at h
   simp_all
   .cases hi:iJ pu g x l with
    |none=>grind
    |some a=>
     rw[hi]at h;cases h;exact((Kj hi).cons y).trans (.swap x y l)
  grind
theorem Cp:∀{l r:Hm},jG pu g l=some r->r.Perm l
 |[],r,h=>by cases h;rfl
 |x::l,r,h=>by
  simp only[jG]at h;split at h
  .rename_i b a;exact(Kj h).trans ((Cp a).cons x)
  grind
variable {es l:Hm}(hs:l.Perm es)(hok:okS pu g l=true)(hn:0<es.length)
def eAt (es:Hm)(i:Nat):D:=es.getD (i%es.length) .bad
def cfN (pu:Pure)(g:FuncId)(es:Hm)(i j:Nat):Int:=(fH pu g (eAt es i) (eAt es j)).getD 0
include hn in
theorem md (i:Nat):eAt es i∈es:=by
 grind[eAt,Nat.mod_lt,List.getElem_mem]
include hs hn in
theorem oP (i:Nat):∃p,∃a:p<l.length,l[p]=eAt es i:=ze.1 (hs.mem_iff.2 (md hn i))
include hs hok hn in
theorem OE (i j:Nat):fH pu g (eAt es i) (eAt es j)=some (cfN pu g es i j):=by
 grind[We,md,cfN]
include hs hok hn in
theorem Mb (i j:Nat):ltOf (cfN pu g es) i j=true↔ltF pu g (eAt es i) (eAt es j):=by
 have h:=OE hs hok hn i j;unfold ltOf;rw[zT];exact⟨fun k=>⟨_,h,k⟩,fun⟨n,a,b⟩=>by grind⟩
include hs hok hn in
theorem UV:SWO (ltOf (cfN pu g es)):=by
 have l:∀i j,ltOf (cfN pu g es) i j=false↔¬ltF pu g (eAt es i) (eAt es j):=fun i j=>by rw[<-Mb hs hok hn,zj]
 refine⟨fun i=>?_,fun i j k h1 b=>?_,fun i j k h1 b=>?_⟩
 .obtain⟨p,a,e⟩:=oP hs hn i;grind[td]
 .obtain⟨p,a,c⟩:=oP hs hn i;obtain⟨q,d,f⟩:=oP hs hn j;obtain⟨r,hr,h⟩:=oP hs hn k;grind[td]
 obtain⟨p,a,c⟩:=oP hs hn i;obtain⟨q,d,f⟩:=oP hs hn j;obtain⟨r,hr,h⟩:=oP hs hn k;grind[td]
include hs hok hn in
theorem Wc {c:Array Nat}(m:PermIn 0 es.length (Array.range es.length) c)(n:SortedIn (ltOf (cfN pu g es)) 0 es.length c):c.toList.map (eAt es)=l:=by
 obtain⟨o,_,h⟩:=m;rw[Array.size_range]at o;have p:c.extract 0 es.length=c:=by grind
 have q:(Array.range es.length).extract 0 es.length=Array.range es.length:=by
  simp
 rw[p,q,Array.toList_range]at h
 have d:(List.range es.length).map (eAt es)=es:=by
  apply zp (by simp);grind[eAt,Nat.mod_eq_of_lt]
 have e:(c.toList.map (eAt es)).Perm l:=by
  refine(h.map _).trans ?_;rw[d];exact hs.symm
 refine e.eq_of_pairwise (le:=fun a b=>¬ltF pu g b a) (fun a b r s h1 k=>?_) ?_ ?_;grind[List.mem_iff_getElem,td]
 .rw[xh];intro i j h1 k f;rw[zA,yy]at h1 k;have:=n i j (zB _) f (by omega);have t:ltOf (cfN pu g es) c[j]! c[i]! =false↔¬ltF pu g (eAt es c[j]!) (eAt es c[i]!):=by rw[<-Mb hs hok hn,zj]
  grind
 grind[List.pairwise_iff_getElem,td]
end
end Go.F.Gv
