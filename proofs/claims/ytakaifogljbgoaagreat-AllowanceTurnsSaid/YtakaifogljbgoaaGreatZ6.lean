/- Parts of the proof, part 6: Ops2. -/
import Derived.Test.YtakaifogljbgoaaGreatZ5
set_option linter.all false
namespace Go.F
open Go.RowKit (Below)
variable {P:Program}{c:Ctx}{m:Map}{pr:q1x}{h hr:q0e}{z:Frz}{w:World}
theorem q43 (b o n:Nat):(⟨b,o,none⟩:Addr).add n=⟨b,o+n,none⟩:=by
 unfold Addr.add
 split
 ·rename_i hn;subst hn;rfl
 rfl
theorem q71 (l l':List D):fl (l++l')=fl l++fl l':=by simp[fl]
theorem qcd {l:List D}{n:Nat}(hl:∀e∈l,e.cells.length=n)(k:Nat):fl (l.take k)=(fl l).take (k*n):=by
 induction l generalizing k with
 |nil=>simp[fl]
 |cons e l ih=>
  cases k with
  |zero=>simp[fl]
  |succ k=>
   have h1:=hl e (List.mem_cons_self ..)
   have h2:=ih (fun x hx=>hl x (List.mem_cons_of_mem _ hx)) k
   simp only[fl,List.take_succ_cons,List.flatMap_cons]at h2⊢
   rw[h2,List.take_append,h1,Nat.succ_mul,List.take_of_length_le (l:=e.cells) (by rw[h1];omega),show k*n+n-n=k*n by omega]
theorem qjr {l:List D}{n:Nat}(hl:∀e∈l,e.cells.length=n)(k:Nat):fl (l.drop k)=(fl l).drop (k*n):=by
 induction l generalizing k with
 |nil=>simp[fl]
 |cons e l ih=>
  cases k with
  |zero=>simp[fl]
  |succ k=>
   have h1:=hl e (List.mem_cons_self ..)
   have h2:=ih (fun x hx=>hl x (List.mem_cons_of_mem _ hx)) k
   simp only[fl,List.drop_succ_cons,List.flatMap_cons]at h2⊢
   rw[h2,List.drop_append,h1,Nat.succ_mul,List.drop_of_length_le (l:=e.cells) (by rw[h1];omega),List.nil_append,show k*n+n-n=k*n by omega]
structure Win (m:Map)(pr:q1x)(w:World)(l:List D)(v:Value):Prop where
 ex:∃ao cap,v=.slice ao l.length cap∧l.length≤cap∧(l≠[]→∃(b o:Nat) (f:Nat→Value),ao=some ⟨b,o,none⟩∧∀k (hk:k<(fl l).length),w.cell? ⟨b,o+k,none⟩=some (f k)∧VR m pr w ((fl l)[k]) (f k))
 one:∀e∈fl l,e.one=true
 esz:∃n,0<n∧∀e∈l,e.cells.length=n
def Sub (hr h:q0e):Prop:=∀id b,hr id=some b→h id=some b
theorem q7K (H:HR c m h z w)(hs:Sub hr h){x:D}{v:Value}{l:List D}(hx:VR m (Pr c m h z) w x v)(hw:window hr x=some l):Win m (Pr c m h z) w l v:=by
 cases x<;>simp only[window,reduceCtorEq,Option.some.injEq]at hw
 case nilsl=>subst hw;cases hx;exact⟨⟨_,0,rfl,by simp,by simp⟩,by simp[fl],⟨1,by omega,by simp⟩⟩
 case lst l'=>
  subst hw
  cases hx with
  |lst0 a cap=>exact⟨⟨_,cap,rfl,by simp,by simp⟩,by simp[fl],⟨1,by omega,by simp⟩⟩
  |lst _ b o cap esz cv hne hes hpos hcap hc hv hone=>
   exact⟨⟨_,cap,rfl,hcap,fun _=>⟨b,o,cv,rfl,fun k hk=>⟨(hc k hk).1,(hv k hk).up⟩⟩⟩,hone,⟨esz,hpos,hes⟩⟩
 case ref id off len=>
  split at hw
  ·rename_i es esz' hb
   split at hw
   ·rename_i hle
    simp at hw;subst hw
    cases hx with
    |vnil _ a=>exact⟨⟨a,0,by simp,by simp,fun h0=>by simp at h0⟩,by simp[fl],⟨1,by omega,by simp⟩⟩
    |ref _ _ _ b esz cap C t f hm hw' hcap hlen=>
     obtain⟨b',C',t',h1,h2,h3,h4⟩:=H.rowR (hs _ _ hb) hm
     rw[h1]at hm;cases hm
     rw[h3]at hw';cases hw'
     obtain⟨r1,r2,r3,r4,r5⟩:=h4
     have hll:((es.drop off).take len).length=len:=by simp;omega
     have hu:∀e∈(es.drop off).take len,e.cells.length=esz':=fun e he=>r2 e (List.mem_of_mem_drop (List.mem_of_mem_take he))
     have hfl:fl ((es.drop off).take len)=((fl es).drop (off*esz')).take (len*esz'):=by
      rw[qcd (fun e he=>r2 e (List.mem_of_mem_drop he)),qjr r2]
     have hfll:=q1m r2
     refine⟨⟨_,cap,by rw[hll],by omega,fun _=>⟨b,off*esz',fun k=>C.getD (off*esz'+k) undef,rfl,fun k hk=>?_⟩⟩,?_,⟨esz',r1,hu⟩⟩
     ·have hk2:k<len*esz':=by rw[hfl]at hk;simp at hk;omega
      have hk3:off*esz'+k<(fl es).length:=by
       rw[hfll]
       have:(off+len) *esz'≤es.length*esz':=Nat.mul_le_mul_right _ hle
       rw[Nat.add_mul]at this;omega
      have hk4:off*esz'+k<C.size:=by omega
      have hg:(fl ((es.drop off).take len))[k]=(fl es)[off*esz'+k]:=by
       simp only[hfl,List.getElem_take,List.getElem_drop]
      rw[hg]
      have hcv:C.getD (off*esz'+k) undef=C[off*esz'+k]:=by simp[Array.getD,hk4]
      simp only[hcv]
      refine⟨?_,r4 _ hk3 hk4⟩
      rw[cell?_row h3];exact Array.getElem?_eq_getElem hk4
     intro e he
     rw[hfl]at he
     exact r5 e (List.mem_of_mem_drop (List.mem_of_mem_take he))
   cases hw
  cases hw
theorem qce (H:HR c m h z w)(hs:Sub hr h){x:D}{v:Value}{cs:List D}{o:Nat}(hx:VR m (Pr c m h z) w x v)(hc:q4T hr x=some (cs,o)):
 ∃(b o':Nat) (f:Nat→Value),v=.pointer (some ⟨b,o'+o,none⟩)∧(∀k (hk:k<cs.length),w.cell? ⟨b,o'+k,none⟩=some (f k)∧VR m (Pr c m h z) w cs[k] (f k))∧∀e∈cs,e.one=true:=by
 cases x<;>simp only[q4T,reduceCtorEq,Option.some.injEq,Prod.mk.injEq]at hc
 case pl e i=>
  obtain⟨rfl,rfl⟩:=hc
  cases hx with
  |pl _ _ b o' cv h1 h2 h3=>exact⟨b,o',cv,rfl,fun k hk=>⟨(h1 k hk).1,(h2 k hk).up⟩,h3⟩
 case ptr id i o2=>
  split at hc
  ·rename_i es esz hb
   cases he:es[i]? with
   |none=>simp[he]at hc
   |some e=>
    simp only[he,Option.map_some,Option.some.injEq,Prod.mk.injEq]at hc
    obtain⟨rfl,rfl⟩:=hc
    cases hx with
    |ptr _ _ _ b esz' hm=>
     obtain⟨b',C,t,h1,h2,h3,r1,r2,r3,r4,r5⟩:=H.rowR (hs _ _ hb) hm
     rw[h1]at hm;cases hm
     have hee:e.cells.length=esz:=r2 e (List.mem_of_getElem? he)
     have hi:i<es.length:=(List.getElem?_eq_some_iff.1 he).1
     have hlen:=q1m r2
     refine⟨b,i*esz,fun k=>C.getD (i*esz+k) undef,rfl,fun k hk=>?_,fun x hx=>?_⟩
     ·have hk':i*esz+k<(fl es).length:=by
       rw[hlen]
       have:(i+1) *esz≤es.length*esz:=Nat.mul_le_mul_right _ hi
       rw[Nat.succ_mul]at this;omega
      have hk2:i*esz+k<C.size:=by omega
      have hcv:C.getD (i*esz+k) undef=C[i*esz+k]:=by simp[Array.getD,hk2]
      have hg:(fl es)[i*esz+k]=e.cells[k]:=by
       have:=q7X r2 he (j:=k) (by omega)
       rw[List.getElem?_eq_getElem hk',List.getElem?_eq_getElem hk]at this
       exact Option.some.inj this
      simp only[hcv,←hg]
      exact⟨by rw[cell?_row h3];exact Array.getElem?_eq_getElem hk2,r4 _ hk' hk2⟩
     have hxi:=List.mem_iff_getElem.1 hx
     obtain⟨j,hj,rfl⟩:=hxi
     have:=q7X r2 he (j:=j) (by omega)
     rw[List.getElem?_eq_getElem hj]at this
     exact r5 _ (List.mem_of_getElem? this)
  cases hc
theorem run_load {t:TypeId}{x d:D}{v:Value}(H:HR c m h z w)(hs:Sub hr h)(hx:VR m (Pr c m h z) w x v)(hd:load P hr t x=some d):
 ∃u,(Instr.loadAt t v).run P w=.ok u w∧VR m (Pr c m h z) w d u:=by
 unfold load at hd
 split at hd
 ·rename_i cs o n hc ha hn
  obtain⟨b,o',f,rfl,h1,h2⟩:=qce H hs hx hc
  split at hd
  ·rename_i hle
   simp at hd;subst hd
   have hrun:=run_loadCells (P:=P) w ⟨b,o'+o,none⟩ n (fun j=>f (o+j)) (fun j hj=>by
    have:=(h1 (o+j) (by omega)).1
    rw[q43,Nat.add_assoc];exact this)
   refine⟨.agg ((List.range n).map fun j=>f (o+j)).toArray,by simp[Instr.loadAt,Instr.sureAddr,loadVar,q8o ha,q0M hn,hrun],?_⟩
   refine .agg _ _ (by simp;omega) (fun k hk hk'=>?_) (fun e he=>h2 e (List.mem_of_mem_drop (List.mem_of_mem_take he)))
   simp only[List.getElem_take,List.getElem_drop,List.getElem_toArray,List.getElem_map,List.getElem_range]
   exact(h1 (o+k) _).2
  cases hd
 ·rename_i cs o n hc ha hn
  obtain⟨b,o',f,rfl,h1,h2⟩:=qce H hs hx hc
  obtain⟨ho,rfl⟩:=List.getElem?_eq_some_iff.1 hd
  refine⟨f o,?_,(h1 o ho).2⟩
  simp[Instr.loadAt,Instr.sureAddr,loadVar,q8o ha,(h1 o ho).1]
 cases hd
theorem qsk {s:TypeId}{f n:Nat}{x d:D}{v:Value}(hx:VR m pr w x v)(hf:qiY P s f=some n)(hd:q88 x n=some d):
 ∃u,(Instr.fieldAt s v f).run P w=.ok u w∧VR m pr w d u:=by
 unfold qiY at hf
 split at hf
 ·rename_i fs hu
  split at hf
  ·rename_i fd hfd
   split at hf
   ·cases hf
   ·rename_i k hk' hk
    simp at hf;subst hf
    have hk':k≠0:=hk'
    cases x<;>simp only[q88,reduceCtorEq,Option.some.injEq]at hd
    case ptr id i o=>
     subst hd
     cases hx with
     |ptr _ _ _ b esz hm=>
      refine⟨.pointer (some ⟨b,i*esz+(o+fd.offset),none⟩),?_,.ptr _ _ _ _ _ hm⟩
      simp[Instr.fieldAt,q0b hu,hfd,Instr.sureAddr,fieldPlace,q0M hk,hk',q43,Nat.add_assoc]
    case pl e o=>
     subst hd
     cases hx with
     |pl _ _ b o' cv h1 h2 h3=>
      refine⟨.pointer (some ⟨b,o'+(o+fd.offset),none⟩),?_,.pl e _ b o' cv h1 h2 h3⟩
      simp[Instr.fieldAt,q0b hu,hfd,Instr.sureAddr,fieldPlace,q0M hk,hk',q43,Nat.add_assoc]
   cases hf
  cases hf
 cases hf
theorem q72 {x:D}{v:Value}{n:Nat}(hx:VR m pr w x v)(hn:qeE x=some n):∃k,v=.int k n:=by
 cases x<;>simp only[qeE,reduceCtorEq]at hn
 case int k i=>
  split at hn
  ·rename_i h0;simp at hn;cases hx;exact⟨k,by rw[←hn];simp[Int.toNat_of_nonneg h0]⟩
  cases hn
theorem qsl {t:TypeId}{x ix d:D}{v vi:Value}(H:HR c m h z w)(hs:Sub hr h)(hx:VR m (Pr c m h z) w x v)(hi:VR m (Pr c m h z) w ix vi)(hd:indexAddr P hr t x ix=some d):
 ∃u,(Instr.indexAt t v vi).run P w=.ok u w∧VR m (Pr c m h z) w d u:=by
 unfold indexAddr at hd
 split at hd
 ·rename_i i e hn hu
  obtain⟨k,rfl⟩:=q72 hi hn
  split at hd
  ·rename_i n l hsz
   split at hd
   ·rename_i y hy
    split at hd
    ·rename_i hc
     simp at hd;subst hd
     obtain⟨hil,rfl⟩:=List.getElem?_eq_some_iff.1 hy
     cases hx with
     |lst0 a cap=>simp at hil
     |lst _ b o cap esz cv hne hes hpos hcap hcl hv hone=>
      have hesz:esz=n:=by rw[←hes _ (List.getElem_mem hil)];exact hc.1
      subst hesz
      refine⟨.pointer (some ⟨b,o+i*esz,none⟩),?_,?_⟩
      ·simp only[Instr.indexAt,asIntOf,Sem.run_bind,Sem.run_pure,Result.andThen_ok,q0b hu]
       have:(0:Int)≤(i:Int)∧(i:Int)<(l.length:Int):=by omega
       simp[this,q0M hsz,q43]
      have hfl:=q1m hes
      have hlt:∀j,j<esz→i*esz+j<(fl l).length:=fun j hj=>by
       rw[hfl]
       have:(i+1) *esz≤l.length*esz:=Nat.mul_le_mul_right _ hil
       rw[Nat.succ_mul]at this;omega
      have hg:∀j (hj:j<l[i].cells.length) (h':i*esz+j<(fl l).length),(fl l)[i*esz+j]=l[i].cells[j]:=fun j hj h'=>by
       have:=q7X hes hy (j:=j) (by omega)
       rw[List.getElem?_eq_getElem h',List.getElem?_eq_getElem hj]at this
       exact Option.some.inj this
      refine .pl l[i] 0 b (o+i*esz) (fun j=>cv (i*esz+j)) (fun j hj=>?_) (fun j hj=>?_) (fun y hy'=>?_)
      ·rw[Nat.add_assoc];exact hcl _ (hlt j (by omega))
      ·rw[←hg j hj (hlt j (by omega))];exact hv _ _
      obtain⟨j,hj,rfl⟩:=List.mem_iff_getElem.1 hy'
      rw[←hg j hj (hlt j (by omega))];exact hone _ (List.getElem_mem _)
    cases hd
   cases hd
  ·rename_i n id off len hsz
   split at hd
   ·rename_i hil
    split at hd
    ·rename_i es esz hb
     split at hd
     ·rename_i he;subst he
      simp at hd;subst hd
      cases hx with
      |vnil _ a=>omega
      |ref _ _ _ b esz' cap C' t'' f hm hw' hcap hlen=>
       obtain⟨b',C,t',h1,_⟩:=H.rowR (hs _ _ hb) hm
       rw[h1]at hm;cases hm
       refine⟨.pointer (some ⟨b,(off+i) *esz+0,none⟩),?_,.ptr _ _ _ _ _ h1⟩
       simp only[Instr.indexAt,asIntOf,Sem.run_bind,Sem.run_pure,Result.andThen_ok,q0b hu]
       have:(0:Int)≤(i:Int)∧(i:Int)<(len:Int):=by omega
       simp[this,q0M hsz,q43,Nat.add_mul]
     cases hd
    cases hd
   cases hd
  cases hd
 ·rename_i i len e hn hu
  obtain⟨k,rfl⟩:=q72 hi hn
  split at hd
  ·rename_i n hsz
   split at hd
   ·rename_i hil
    have hb:(0:Int)≤(i:Int)∧(i:Int)<(len:Int):=by omega
    cases x<;>simp only[q88,reduceCtorEq,Option.some.injEq]at hd
    case ptr id j o=>
     subst hd
     cases hx with
     |ptr _ _ _ b esz hm=>
      refine⟨.pointer (some ⟨b,j*esz+(o+i*n),none⟩),?_,.ptr _ _ _ _ _ hm⟩
      simp[Instr.indexAt,asIntOf,q0b hu,Instr.sureAddr,q0M hsz,q43,Nat.add_assoc]
      intro hc;omega
    case pl y o=>
     subst hd
     cases hx with
     |pl _ _ b o' cv h1 h2 h3=>
      refine⟨.pointer (some ⟨b,o'+(o+i*n),none⟩),?_,.pl y _ b o' cv h1 h2 h3⟩
      simp[Instr.indexAt,asIntOf,q0b hu,Instr.sureAddr,q0M hsz,q43,Nat.add_assoc]
      intro hc;omega
   cases hd
  cases hd
 cases hd
theorem qEz {t:TypeId}{x ix d:D}{v vi:Value}(hx:VR m pr w x v)(hi:VR m pr w ix vi)(hd:index P t x ix=some d):
 ∃u,(Instr.index t v vi).run P w=.ok u w∧VR m pr w d u:=by
 unfold index at hd
 split at hd
 ·rename_i i len e cs hn hu
  obtain⟨k,rfl⟩:=q72 hi hn
  obtain⟨vs,rfl,hlen,hv,hone⟩:=hx.aggs
  split at hd
  ·rename_i hil
   have hb:(0:Int)≤(i:Int)∧(i:Int)<(len:Int):=by omega
   split at hd
   ·rename_i n ha hsz
    split at hd
    ·rename_i hle
     simp at hd;subst hd
     refine⟨.agg (vs.extract (i*n) (i*n+n)),by simp[Instr.index,asIntOf,q0b hu,q0M hsz,part,q8o ha];intro hc;omega,?_⟩
     refine .agg _ _ (by simp;omega) (fun j hj hj'=>?_) (fun y hy=>hone y (List.mem_of_mem_drop (List.mem_of_mem_take hy)))
     simp only[List.getElem_take,List.getElem_drop,Array.getElem_extract]
     exact hv _ _ _
    cases hd
   ·rename_i n ha hsz
    obtain⟨ho,rfl⟩:=List.getElem?_eq_some_iff.1 hd
    refine⟨vs[i*n]'(by omega),?_,hv _ ho (by omega)⟩
    simp[Instr.index,asIntOf,q0b hu,q0M hsz,part,q8o ha,Array.getElem?_eq_getElem (show i*n<vs.size by omega)]
    intro hc;omega
   cases hd
  cases hd
 ·rename_i i s hn hu
  obtain⟨k,rfl⟩:=q72 hi hn
  cases hx
  split at hd
  ·rename_i b hb
   simp at hd;subst hd
   refine⟨.int .u8 b.toNat,?_,.int _ _⟩
   have h0:(0:Int)≤(i:Int):=by omega
   have hb':s[i]?=some b:=by
    rw[ByteArray.toList_eq]at hb
    obtain⟨⟨l⟩⟩:=s
    simp only at hb
    obtain⟨hlt,rfl⟩:=List.getElem?_eq_some_iff.1 hb
    simp only[getElem?_def]
    have:i<(ByteArray.mk ⟨l⟩).size:=hlt
    simp[this]
    rfl
   simp[Instr.index,asIntOf,q0b hu,h0,hb']
  cases hd
 cases hd
end Go.F
