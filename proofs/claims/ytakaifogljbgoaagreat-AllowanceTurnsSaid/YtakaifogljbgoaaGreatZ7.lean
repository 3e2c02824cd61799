/- Parts of the proof, part 7: Ops3. -/
import Derived.Test.YtakaifogljbgoaaGreatZ6
import Derived.Laws.BytesString
import Derived.Laws.Append
import Derived.Laws.MakeOwn
set_option linter.all false
namespace Go.F
open Go.RowKit (Below)
variable {P:Program}{c:Ctx}{m:Map}{pr:q1x}{h hr:q0e}{z:Frz}{w:World}
theorem qvQ {l:List D}{bs:List UInt8}(hb:q5I l=some bs):∃ns:List Int,l=ns.map (D.int .u8)∧bs=ns.map fun n=>UInt8.ofNat n.toNat:=by
 induction l generalizing bs with
 |nil=>simp[q5I]at hb;subst hb;exact⟨[],rfl,rfl⟩
 |cons d l ih=>
  unfold q5I at hb
  split at hb
  ·rename_i e;cases e
  ·rename_i n l' e
   cases e
   cases he:q5I l with
   |none=>simp[he]at hb
   |some bs'=>
    simp[he]at hb
    obtain⟨ns,rfl,rfl⟩:=ih he
    exact⟨n::ns,rfl,by rw[←hb];rfl⟩
  cases hb
theorem qCU (ns:List Int):fl (ns.map (D.int .u8))=ns.map (D.int .u8):=by
 induction ns with
 |nil=>rfl
 |cons n ns ih=>
  have:fl ((n::ns).map (D.int .u8))=.int .u8 n::fl (ns.map (D.int .u8)):=rfl
  rw[this,ih];rfl
theorem qBe (ns:List Int)(s:ByteArray):ns.foldl (fun r n=>r.push (UInt8.ofNat n.toNat)) s=⟨s.data++(ns.map fun n=>UInt8.ofNat n.toNat).toArray⟩:=by
 induction ns generalizing s with
 |nil=>obtain⟨d⟩:=s;simp
 |cons n ns ih=>
  rw[List.foldl_cons,ih]
  obtain⟨d⟩:=s
  simp[ByteArray.push]
theorem qEA {x:D}{v:Value}{l:List D}{bs:List UInt8}(H:HR c m h z w)(hs:Sub hr h)(hx:VR m (Pr c m h z) w x v)(hw:window hr x=some l)(hb:q5I l=some bs):
 (Conv.bytesToString v).run P w=.ok (.string ⟨bs.toArray⟩) w∧∃a n k,v=.slice a n k:=by
 obtain⟨⟨ao,cap,rfl,hcap,hcells⟩,hone,_⟩:=q7K H hs hx hw
 obtain⟨ns,rfl,rfl⟩:=qvQ hb
 refine⟨?_,_,_,_,rfl⟩
 have hfl:=qCU ns
 cases hn:ns with
 |nil=>
  subst hn
  cases ao with
  |none=>simp[Conv.bytesToString];rfl
  |some a=>simp[Conv.bytesToString,loadCells,loadCellsFrom];rfl
 |cons n0 ns0=>
  obtain⟨b,o,f,rfl,hf⟩:=hcells (by simp[hn])
  rw[←hn]
  have hvals:∀k (hk:k<ns.length),f k=.int .u8 ns[k]∧w.cell? ⟨b,o+k,none⟩=some (.int .u8 ns[k]):=by
   intro k hk
   have h1:=hf k (by rw[hfl];simpa using hk)
   have h2:(fl (ns.map (D.int .u8)))[k]'(by rw[hfl];simpa using hk)=.int .u8 ns[k]:=by simp[hfl]
   rw[h2]at h1
   have h3:f k=.int .u8 ns[k]:=h1.2.ints rfl
   exact⟨h3,by rw[←h3];exact h1.1⟩
  have hload:(loadCells ⟨b,o,none⟩ (ns.map (D.int .u8)).length).run P w=.ok (ns.map (Value.int .u8)).toArray w:=by
   have:=run_loadCells_list (P:=P) w ⟨b,o,none⟩ (ns.map (Value.int .u8)) (fun j v hj=>by
    rw[q43]
    obtain⟨hlt,rfl⟩:=List.getElem?_eq_some_iff.1 hj
    simp at hlt
    simp[(hvals j hlt).2])
   simpa using this
  rw[run_bytesToString w _ _ _ ns hload,qBe]
  have e0:ByteArray.empty.data= #[]:=rfl
  rw[e0];simp
theorem qHi {src dst:TypeId}{x d:D}{v:Value}(H:HR c m h z w)(hs:Sub hr h)(hx:VR m (Pr c m h z) w x v)(hd:conv P hr src dst x=some d):
 ∃u,(convert src dst v).run P w=.ok u w∧VR m (Pr c m h z) w d u:=by
 unfold conv at hd
 split at hd
 ·rename_i s k k' n hu1 hu2
  simp at hd;subst hd;cases hx
  exact⟨_,by simp[convert,q0b hu1,q0b hu2,Conv.intToInt],.int _ _⟩
 ·rename_i s k k' n hu1 hu2
  simp at hd;subst hd;cases hx
  exact⟨_,by simp[convert,q0b hu1,q0b hu2,Conv.intToFloat],.float _ _⟩
 ·rename_i s k sk b hu1 hu2
  cases hx
  split at hd
  ·rename_i n hn
   split at hd
   ·rename_i hr'
    simp at hd;subst hd
    exact⟨_,by simp[convert,q0b hu1,q0b hu2,Conv.floatToInt,hn,hr'],.int _ _⟩
   cases hd
  cases hd
 ·rename_i s s' hu1 hu2
  simp at hd;subst hd;cases hx
  exact⟨_,by simp[convert,q0b hu1,q0b hu2],.str _⟩
 ·skip
  split at hd
  ·skip
   split at hd
   ·rename_i l hl
    split at hd
    ·cases hb:q5I l with
     |none=>simp[hb]at hd
     |some bs=>
      simp[hb]at hd;subst hd
      obtain⟨h1,a,n,k,rfl⟩:=qEA (P:=P) H hs hx hl hb
      refine⟨.string ⟨bs.toArray⟩,?_,.str _⟩
      rw[run_convert_bytes_string w src dst _ a n k (by assumption) (by assumption) (by assumption)];exact h1
    cases hd
   cases hd
  cases hd
 cases hd
theorem qIJ {ts:List TypeId}{xs:List D}{vs:List Value}{d:D}(H:HR c m h z w)(hs:Sub hr h)(hl:xs.length=vs.length)(hv:∀k (_:k<xs.length) (_:k<vs.length),VR m (Pr c m h z) w xs[k] vs[k])
 (hd:qxq P hr ts xs=some d) (ty:TypeId):∃u,(Builtin.len_ ts.toArray ty vs.toArray).run P w=.ok u w∧VR m (Pr c m h z) w d u:=by
 unfold qxq at hd
 split at hd
 ·rename_i t x
  cases vs with
  |nil=>simp at hl
  |cons v vs=>
   cases vs with
   |cons _ _=>simp at hl
   |nil=>
    have hx:=hv 0 (by simp) (by simp)
    simp at hx
    split at hd
    ·rename_i s hu
     simp at hd;subst hd;cases hx
     exact⟨_,by simp[Builtin.len_,q0b hu];rfl,.int _ _⟩
    ·rename_i n e _ hu
     simp at hd;subst hd
     exact⟨_,by simp[Builtin.len_,q0b hu];rfl,.int _ _⟩
    ·rename_i e hu
     simp at hd;subst hd;cases hx
     exact⟨_,by simp[Builtin.len_,q0b hu];rfl,.int _ _⟩
    ·rename_i e l hu
     simp at hd;subst hd
     cases hx with
     |lst0=>exact⟨_,by simp[Builtin.len_,q0b hu];rfl,.int _ _⟩
     |lst=>exact⟨_,by simp[Builtin.len_,q0b hu];rfl,.int _ _⟩
    ·rename_i e a b n hu
     simp at hd;subst hd
     cases hx with
     |ref=>exact⟨_,by simp[Builtin.len_,q0b hu];rfl,.int _ _⟩
     |vnil=>exact⟨_,by simp[Builtin.len_,q0b hu];rfl,.int _ _⟩
    ·rename_i k e ks _ hu
     simp at hd;subst hd
     cases hx with
     |mlst _ _ r clock es hw hp h1 h2 hk hv'=>
      refine⟨.int .i64 es.size,?_,by rw[h1];exact .int _ _⟩
      simp[Builtin.len_,q0b hu,getObj,Sem.run,hw,goInt]
    ·rename_i k e id hu
     split at hd
     ·rename_i ks _ hb
      simp at hd;subst hd
      obtain⟨r,es,clock,h1,h2,h3,h4⟩:=H.mp id ks _ (hs _ _ hb)
      cases hx with
      |mref _ r' hm=>
       rw[h1]at hm;cases hm
       refine⟨.int .i64 es.size,?_,by rw[h4.1];exact .int _ _⟩
       simp[Builtin.len_,q0b hu,getObj,Sem.run,h3,goInt]
     cases hd
    cases hd
 cases hd
theorem qIK {ts:List TypeId}{xs:List D}{vs:List Value}{d:D}(hl:xs.length=vs.length)(hv:∀k (_:k<xs.length) (_:k<vs.length),VR m pr w xs[k] vs[k])
 (hd:qxr P ts xs=some d) (ty:TypeId):∃u,(Builtin.cap_ ts.toArray ty vs.toArray).run P w=.ok u w∧VR m pr w d u:=by
 unfold qxr at hd
 split at hd
 ·rename_i t
  cases vs with
  |nil=>simp at hl
  |cons v vs=>
   cases vs with
   |cons _ _=>simp at hl
   |nil=>
    have hx:=hv 0 (by simp) (by simp)
    simp at hx
    split at hd
    ·rename_i e hu
     simp at hd;subst hd;cases hx
     exact⟨_,by simp[Builtin.cap_,q0b hu];rfl,.int _ _⟩
    cases hd
 cases hd
theorem findNow_spec (s:ByteArray):∀(ks:List ByteArray) (es:List MapEntry) (i:Nat),ks.length=es.length→(∀j (_:j<ks.length) (_:j<es.length),es[j].key=.string ks[j])→
 (∀k,findKey s ks i=some k→∃(hk:k-i<es.length),i≤k∧Instr.findNow .string (.string s) es i=some (some (k,es[k-i].val)))∧(findKey s ks i=none→Instr.findNow .string (.string s) es i=some none):=by
 intro ks
 induction ks with
 |nil=>intro es i hl _;cases es<;>simp at hl;simp[findKey,Instr.findNow]
 |cons x ks ih=>
  intro es i hl hk
  cases es with
  |nil=>simp at hl
  |cons e es=>
   have h0:=hk 0 (by simp) (by simp)
   simp at h0
   obtain⟨i1,i2⟩:=ih es (i+1) (by simpa using hl) (fun j h1 h2=>by have:=hk (j+1) (by simp;omega) (by simp;omega);simpa using this)
   simp only[findKey,Instr.findNow,h0,Instr.sameNow]
   by_cases hb:(s==x)=true
   ·simp only[hb,if_true]
    constructor
    ·intro k hk';simp at hk';subst hk';exact⟨by simp,by omega,by simp⟩
    intro hk';cases hk'
   simp only[Bool.not_eq_true]at hb
   simp only[hb,Bool.false_eq_true,if_false]
   constructor
   ·intro k hk'
    obtain⟨a,b,c'⟩:=i1 k hk'
    refine⟨by simp;omega,by omega,?_⟩
    rw[c']
    have:k-i=(k-(i+1))+1:=by omega
    simp[this]
   exact i2
theorem q5N {kt:TypeId}{s:ByteArray}{b:Bool}{n:Nat}(hk:P.underlying kt=some .string):(Instr.checkKey b (n+1) kt (.string s)).run P w=.ok () w:=by
 simp[Instr.checkKey,q0b hk]
theorem q2Z {t:TypeId}{d:D}(hz:zeroOf P t=some d):∃i v,P.info? t=some i∧i.zero=some v∧d=q59 v:=by
 unfold zeroOf at hz
 cases hi:P.info? t with
 |none=>simp[hi]at hz
 |some i=>
  cases hv:i.zero with
  |none=>simp[hi,hv]at hz
  |some v=>simp[hi,hv]at hz;exact⟨i,v,rfl,hv,hz.symm⟩
theorem q2f {t:TypeId}{i:TypeInfo}{v:Value}(hi:P.info? t=some i)(hv:i.zero=some v):(zeroValue t).run P w=.ok v w:=by
 simp[zeroValue,q4Y hi,hv]
theorem qjs {mt:TypeId}{ks:List ByteArray}{vs:List D}{k d:D}{vk:Value}{ok:Bool}{r clock:Nat}{es:Array MapEntry}(hw:w.heap[r]?=some (.map es clock))(hm:MapIn m pr w ks vs es)
 (hk:VR m pr w k vk) (hd:qbl P mt ks vs k ok=some d):∃u,(Instr.lookup mt (.map (some r)) vk ok).run P w=.ok u w∧VR m pr w d u:=by
 obtain⟨m1,m2,m3,m4⟩:=hm
 have hget:(getObj r).run P w=.ok (.map es clock) w:=by simp[getObj,Sem.run,hw]
 unfold qbl at hd
 split at hd
 ·rename_i kt e s hu
  cases hk
  obtain⟨f1,f2⟩:=findNow_spec s ks es.toList 0 (by simpa using m1) (fun j h1 h2=>by simpa using m3 j h1 (by simpa using h2))
  split at hd
  ·rename_i i hkt hf
   obtain⟨h1,_,h2⟩:=f1 i hf
   simp only[Nat.sub_zero,Array.length_toList]at h1
   cases hv:vs[i]? with
   |none=>simp[hv]at hd
   |some dv=>
    simp[hv]at hd
    obtain⟨hi,rfl⟩:=List.getElem?_eq_some_iff.1 hv
    have hvr:=m4 i hi h1
    refine⟨if ok then .tuple #[es[i].val,.bool true]else es[i].val,?_,?_⟩
    ·simp only[Instr.lookup,Sem.run_bind,q0b hu,Result.andThen_ok,hget,q5N hkt (n:=9999),Instr.findKey,q0b hkt,h2,Sem.run_pure]
     simp
    cases ok
    ·simp at hd⊢;rw[←hd];exact hvr
    simp at hd⊢;rw[←hd]
    refine .tup _ _ rfl (fun j hj hj'=>?_)
    simp at hj
    match j,hj with
    |0,_=>exact hvr
    |1,_=>exact .bool _
  ·rename_i hkt hf
   cases hz:zeroOf P e with
   |none=>simp[hz]at hd
   |some dz=>
    simp[hz]at hd
    obtain⟨i,v,hi,hv,rfl⟩:=q2Z hz
    refine⟨if ok then .tuple #[v,.bool false]else v,?_,?_⟩
    ·simp only[Instr.lookup,Sem.run_bind,q0b hu,Result.andThen_ok,hget,q5N hkt (n:=9999),Instr.findKey,q0b hkt,f2 hf,Sem.run_pure,q2f hi hv]
    cases ok
    ·simp at hd⊢;rw[←hd];exact q4J v
    simp at hd⊢;rw[←hd]
    refine .tup _ _ rfl (fun j hj hj'=>?_)
    simp at hj
    match j,hj with
    |0,_=>exact q4J v
    |1,_=>exact .bool _
  cases hd
 cases hd
theorem qBf {mt:TypeId}{x k d:D}{vx vk:Value}{ok:Bool}(H:HR c m h z w)(hs:Sub hr h)(hx:VR m (Pr c m h z) w x vx)(hk:VR m (Pr c m h z) w k vk)(hd:lookup P hr mt x k ok=some d):
 ∃u,(Instr.lookup mt vx vk ok).run P w=.ok u w∧VR m (Pr c m h z) w d u:=by
 cases x<;>simp only[lookup,reduceCtorEq]at hd
 case mlst ks vs=>
  cases hx with
  |mlst _ _ r clock es hw hp h1 h2 h3 h4=>exact qjs hw ⟨h1,h2,h3,fun i h5 h6=>(h4 i h5 h6).up⟩ hk hd
 case mref id=>
  split at hd
  ·rename_i ks vs hb
   obtain⟨r,es,clock,h1,h2,h3,h4⟩:=H.mp id ks vs (hs _ _ hb)
   cases hx with
   |mref _ r' hm=>
    rw[h1]at hm;cases hm
    exact qjs h3 h4 hk hd
  cases hd
end Go.F
