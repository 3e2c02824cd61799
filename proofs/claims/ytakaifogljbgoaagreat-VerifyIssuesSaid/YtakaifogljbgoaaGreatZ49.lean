/- Parts of the proof, part 49: V9, V10, RG1, RG2, Ply3, RG3, RG4, RG5, RN1, RN2, RN3, RN4, RefA, RefB, RN5, RN6, RG7, VR1, V15, V16, VR2. -/
import Derived.Test.YtakaifogljbgoaaGreatZ48
import Derived.Test.YtakaifogljbgoaaGreatZ47
import Derived.Test.YtakaifogljbgoaaGreatZ45
set_option linter.all false
namespace Go.F
attribute [local irreducible] IntKind.wrap wpM
theorem qIe {t t1:q0x}{h h1:q0e}{z z1:Frz}{nx:Nat}{live:Live}{rows:List (List D)}{vs:List D}{bs:List (Option Blk)}{zs:List Nat}{K:Kept→Prop}(hn:qcs live t h z nx=(t1,h1,z1))(hr:qm5 t1 h1 live=some rows)(hp:qeS rows)
 (hv:q9M 0 (q0B t1 live) t1 live=vs) (hb:q9N 0 (q0B t1 live) h1 (q0B t1 live) 0=bs) (hz:qie 0 (q0B t1 live) z1 (q0B t1 live) 0=zs) (hk:K (vs,bs,zs)) (hnst:q5p live=false:=by rfl):q12 0 live t h z nx fun _ _ kp=>K kp:=by
 unfold q12
 simp only[hnst]
 unfold q6U
 refine qiP _ _ _ _ _ _ fun nx'=>?_
 rw[hn]
 refine qq8 hr hp ?_
 rw[q6t,q6u,hv,hb,hz]
 exact hk
def o5 (s:Sty)(i z:Nat):Bool:=decide (1≤z)&&(decide (mz s (z-1)<mz s z)&&((qk1 s i (z-1)).outline&&((qk1 s i z).outline&&decide ((qk1 s i z).area<(qk1 s i (z-1)).area))))
def qId (s:Sty):List Iss:=
 q1W 1 (o1 (qk1 s)) s.pieces.length s.mults.length++q1W 2 (o2 (qk1 s)) s.pieces.length s.mults.length++
 (q1W 3 (o3 s) s.seams.length s.mults.length++q1W 4 (o4 s) s.seams.length s.mults.length)++
 q1W 5 (o5 s) s.pieces.length s.mults.length++q1W 6 (o6 s) s.pieces.length s.mults.length
def qIl (s:Sty):List Iss×Int:=if q2M s≠0 then([],q2M s)else(qId s,0)
def cellS (s:Sty)(a:Nat)(d:D)(i:Nat):D:=if i<a then q9Q s.mults.length (qk1 s i)else if i=a then d else .nilsl
def qIm (s:Sty)(a:Nat)(d:D):List D:=(List.range s.pieces.length).map (cellS s a d)
def qIz (s:Sty)(a b:Nat):List D:=((List.range b).map (qk1 s a)).map Grd.enc
def dB:Nat→D
 |0=> .nilsl
 |b+1=> .ref 10 0 (b+1)
def blkB (s:Sty)(a:Nat):Nat→Option Blk
 |0=>none
 |b+1=>some (.row (qIz s a (b+1)) 3)
theorem qKF (s:Sty)(i:Nat):q5M 5 (o5 s) i 1=[]:=by
 rw[row_step]
 have:o5 s i 0=false:=rfl
 rw[this];rfl
theorem qJJ (s:Sty)(a:Nat)(d d':D):(qIm s a d).set a d'=qIm s a d':=by
 unfold qIm
 apply List.ext_getElem
 ·simp
 intro i h1 h2
 rw[List.getElem_set]
 simp only[List.getElem_map,List.getElem_range,cellS]
 split
 ·rename_i e;subst e;rw[if_neg (by omega),if_pos rfl]
 rename_i e;by_cases hi:i<a
 ·rw[if_pos hi,if_pos hi]
 rw[if_neg hi,if_neg hi,if_neg (fun h=>e h.symm),if_neg (fun h=>e h.symm)]
theorem qIy {s:Sty}{a:Nat}(d:D)(h:a<s.pieces.length):(qIm s a d)[a]?=some d:=by
 simp[qIm,h,cellS]
theorem qJ0 (s:Sty)(a:Nat)(d:D)(ids:List (Option Nat))(h:okD 0 ids d=true):(qIm s a d).all (okD 0 ids)=true:=by
 unfold qIm
 rw[List.all_map,List.all_eq_true]
 intro i _
 simp only[Function.comp,cellS]
 split
 ·rfl
 split
 ·exact h
 rfl
theorem qKG {s:Sty}{a:Nat}{d:D}{ids:List (Option Nat)}(ha:a<s.pieces.length)(h:okD 0 ids d=false):(qIm s a d).all (okD 0 ids)=false:=by
 rw[List.all_eq_false]
 exact⟨d,List.mem_of_getElem? (qIy d ha),by rw[h];decide⟩
theorem qIP (s:Sty)(a:Nat)(d:D)(ids:List (Option Nat)):(qIm s a d).map (qII 0 ids)=qIm s a (qII 0 ids d):=by
 unfold qIm
 rw[List.map_map]
 apply List.map_congr_left
 intro i _
 simp only[Function.comp,cellS]
 split
 ·rfl
 split
 ·rfl
 rfl
theorem qKn (s:Sty)(a:Nat):qIm s a (q9Q s.mults.length (qk1 s a))=qIm s (a+1) .nilsl:=by
 unfold qIm
 apply List.map_congr_left
 intro i _
 simp only[cellS]
 by_cases h1:i<a
 ·rw[if_pos h1,if_pos (by omega)]
 rw[if_neg h1]
 by_cases h2:i=a
 ·subst h2;rw[if_pos rfl,if_pos (by omega)]
 rw[if_neg h2,if_neg (by omega)];split<;>rfl
theorem qKo {s:Sty}{a:Nat}{d d':D}{h:q0e}(hd:qAL h depth d=some d'):(qIm s a d).mapM (qAL h depth)=some (qIm s a d'):=by
 unfold qIm
 refine qFo fun i _=>?_
 simp only[cellS]
 split
 ·rfl
 split
 ·exact hd
 rfl
theorem qKp {h:q0e}{id len sz:Nat}{es:List D}(hh:h id=some (.row es sz))(hl:len=es.length)(hd:es.all (dat 4)=true):qAL h depth (.ref id 0 len)=some (.lst es):=qDq (n:=11) hh hl hd (by decide)
theorem qKH {α:Type}{f:Nat→List α}{a:Nat}{x:α}(h0:∀i,i≠a→f i=[])(h1:f a=[x]):∀n,a<n→(List.range n).flatMap f=[x]:=by
 have zero:∀n,n≤a→(List.range n).flatMap f=[]:=by
  intro n hn
  rw[List.flatMap_eq_nil_iff]
  intro i hi
  rw[List.mem_range]at hi
  exact h0 i (by omega)
 intro n
 induction n with
 |zero=>intro h;omega
 |succ n ih=>
  intro h
  rw[List.range_succ,List.flatMap_append,List.flatMap_cons,List.flatMap_nil,List.append_nil]
  by_cases e:n=a
  ·subst e;rw[zero n (Nat.le_refl _),h1];rfl
  rw[ih (by omega),h0 n e,List.append_nil]
theorem qK2 {s:Sty}{a id len sz:Nat}{h:q0e}{es:List D}(ha:a<s.pieces.length)(hh:h id=some (.row es sz))(hd:es.all (dat 4)=true):(qIm s a (.ref id 0 len)).flatMap (q0P h depth)=[id]:=by
 unfold qIm
 rw[List.flatMap_map]
 refine qKH (a:=a) (fun i hi=>?_) ?_ _ ha
 ·simp only[cellS]
  split
  ·rfl
  first|rfl|(rw[if_neg hi];rfl)
 have e:cellS s a (.ref id 0 len) a=.ref id 0 len:=by unfold cellS;rw[if_neg (by omega),if_pos rfl]
 rw[e]
 exact qA8 (n:=11) hh hd
theorem qKI (s:Sty):qIm s s.pieces.length .nilsl=(List.range s.pieces.length).map fun i=>q9Q s.mults.length (qk1 s i):=by
 unfold qIm
 apply List.map_congr_left
 intro i hi
 rw[List.mem_range]at hi
 simp only[cellS,if_pos hi]
theorem qIR (s:Sty)(a b:Nat):qIz s a (b+1)=qIz s a b++[(qk1 s a b).enc]:=by
 unfold qIz
 rw[List.range_succ,List.map_append,List.map_append];rfl
theorem qJi (s:Sty)(a b:Nat):(qIz s a b).length=b:=by simp[qIz]
theorem qJK (s:Sty)(a b:Nat):(qIz s a b).all (dat 4)=true:=q0W qKX _
theorem qJL (s:Sty)(a b:Nat)(ids:List (Option Nat)):(qIz s a b).all (okD 0 ids)=true:=by
 unfold qIz
 rw[List.all_map,List.all_eq_true]
 intro x _;rfl
theorem qJM (s:Sty)(a b:Nat)(ids:List (Option Nat)):(qIz s a b).map (qII 0 ids)=qIz s a b:=by
 unfold qIz
 rw[List.map_map]
 apply List.map_congr_left
 intro x _;rfl
set_option maxRecDepth 100000 in
set_option maxHeartbeats 16000000 in
theorem qIh (s:Sty)(hB:StyB s):PU qDY [s.enc]=some (.tup [qqo (qIl s).1,.int .i64 (qIl s).2]):=by
 refine q0g (fn:=qmf) rfl (q0a ?_)
 refine gg rfl (q02 rfl rfl (q4r s hB) (gg rfl (q01 rfl (fun g=>?_) (fun g=>?_))))
 ·rw[q0u]at g
  refine gg rfl (q08 rfl rfl rfl trivial ?_)
  rw[qIl,if_pos g];rfl
 have h:q2M s=0:=q0z.1 g
 rw[qIl,if_neg (by simp[h])]
 have hok:=qiL h
 have hp12:=hok.pieces
 have hm12:s.mults.length≤12:=by have:=hok.mults;have:=hok.sizes;omega
 have hm1:0<s.mults.length:=by have:=hok.mults;have:=hok.size;omega
 refine gg rfl ?_
 rw[List.length_map]
 refine q44 s.pieces.length rfl rfl rfl (by simp[q0M];omega) ?_
 have ez:List.replicate s.pieces.length D.nilsl=qIm s 0 .nilsl:=by
  unfold qIm
  apply List.ext_getElem
  ·simp
  intro i h1 h2;simp[cellS]
 show wpM _ _ _ _ _ _ (upd _ _ (some (.row (List.replicate s.pieces.length D.nilsl) 1))) _ _ _
 rw[ez]
 refine gg rfl ?_
 rw[List.length_map]
 refine q0l (S:=fun a:Nat=>([.ptr 0 0 0,.ref 1 0 s.pieces.length,Go.F.pieces s.pieces,q00 s.pieces.length,q00 a,.bad],[some (.row [s.enc] 7),some (.row (qIm s a .nilsl) 1),none,none,none,none],[0,0,0,0,0,0])) (C:=fun a=>a≤s.pieces.length) (m:=fun a=>s.pieces.length-a) 0 (Nat.zero_le _) (by omega) ?_ ?_
 ·refine qB7 rfl rfl ?_ rfl ?_ rfl
  ·show((qIm s 0 .nilsl).all (okD 0 _)&&true)=true
   rw[qJ0 _ _ _ _ rfl];rfl
  exact congrArg (fun r:List D=>([some (.row [s.enc] 7),some (.row r 1),none,none,none,none]:List (Option Blk))) (qIP _ _ _ _)
 intro a ha N hN
 refine gg rfl (q01 rfl (fun e=>?_) (fun e=>?_))
 ·rw[q06]at e
  have hlt:a<s.pieces.length:=by omega
  have w1:=wS (n:=a)
  have hx:=q4q hlt
  refine gg rfl (q0i a rfl rfl rfl hx rfl (gg rfl ?_))
  rw[List.length_map]
  refine q0l (S:=fun b:Nat=>([.ptr 0 0 0,.ref 1 0 s.pieces.length,q00 a,.ptr 3 0 0,Go.F.pieces s.pieces,q00 s.pieces.length,q00 a,ints s.mults,q00 s.mults.length,q00 b,.bad],[some (.row [s.enc] 7),some (.row (qIm s a (dB b)) 1),none,some (.row [(pc s.pieces a).enc] 7),none,none,none,none,none,none,blkB s a b],[0,0,0,0,0,0,0,0,0,0,0])) (C:=fun b=>b≤s.mults.length) (m:=fun b=>s.mults.length-b) 0 (Nat.zero_le _) (by omega) ?_ ?_
  ·refine qIY (live0:=[(1,0),(5,0),(6,0),(7,0),(24,0),(25,0),(26,0),(32,0),(33,0),(34,0)]) (x:=7340037) .nilsl rfl rfl ?_ rfl ?_ rfl rfl ?_ rfl
   ·show nth (qIm s a .nilsl) (0+a)=_
    rw[qFn,Nat.zero_add a,List.getD_eq_getElem?_getD,qIy _ hlt];rfl
   ·show((qIm s a .nilsl).all (okD 0 _)&&true)=true
    rw[qJ0 _ _ _ _ rfl];rfl
   exact congrArg (fun r:List D=>([some (.row [s.enc] 7),some (.row r 1),none,some (.row [(pc s.pieces a).enc] 7),none,none,none,none,none,none,none]:List (Option Blk))) (qIP _ _ _ _)
  intro b hb N2 hN2
  refine gg rfl (q01 rfl (fun f=>?_) (fun f=>?_))
  ·rw[q06]at f
   have hlb:b<s.mults.length:=by omega
   have w2:=wS (n:=b)
   have hex:=qIb (pc s.pieces a) (mz s b) (by have:=(qqs h hlt).2.2;omega)
   have hmb:(s.mults.map q00)[b]?=some (.int .i64 (mz s b)):=q7f hlb
   refine gg rfl (q0i b rfl rfl rfl hmb rfl (gg rfl (q0H a rfl rfl rfl rfl rfl hlt (gg rfl ?_))))
   cases b with
   |zero=>
    refine qn1 rfl rfl (by rw[Nat.zero_add];exact qIy _ hlt) rfl ?_
    refine gg rfl (q02 rfl rfl hex (gg rfl (qKg rfl rfl rfl rfl rfl (by simp[q0M]) ?_)))
    refine gg rfl ?_
    rw[Nat.zero_add]
    refine q0H a rfl rfl rfl rfl rfl hlt (gg rfl ?_)
    rw[Nat.zero_add]
    refine qy5 rfl rfl rfl (Nat.zero_le _) (qIy _ hlt) rfl ?_
    rw[qJJ]
    refine gg rfl (q04 (hN2 ((0)+1) hlb (by omega) ?_))
    rw[←w2]
    refine qIY (live0:=[(1,0),(5,0),(6,0),(7,0),(24,0),(25,0),(26,0),(32,0),(33,0),(34,0)]) (x:=7340037) (.ref 65 0 ((0)+1)) rfl rfl ?_ rfl ?_ ?_ rfl ?_ rfl
    ·show nth (qIm s a (.ref 65 0 ((0)+1))) (0+a)=_
     rw[qFn,Nat.zero_add a,List.getD_eq_getElem?_getD,qIy _ hlt];rfl
    ·show((qIm s a (.ref 65 0 ((0)+1))).all (okD 0 _)&&true)=true
     rw[qJ0 _ _ _ _ rfl];rfl
    ·show(qIz s a (0)++[(qk1 s a (0)).enc]).all (okD 0 _)=true
     rw[←qIR,qJL]
    have hq:∀ids,(qIz s a (0)++[(qk1 s a (0)).enc]).map (qII 0 ids)=qIz s a ((0)+1):=fun ids=>by rw[←qIR,qJM]
    exact(congrArg (fun r:List D=>([some (.row [s.enc] 7),some (.row r 1),none,some (.row [(pc s.pieces a).enc] 7),none,none,none,none,none,none,some (.row ((qIz s a (0)++[(qk1 s a (0)).enc]).map (qII 0 [some 0,some 1,none,some 3,none,none,none,none,none,none,some 65])) 3)]:List (Option Blk))) (qIP _ _ _ _)).trans (congrArg (fun r:List D=>([some (.row [s.enc] 7),some (.row (qIm s a (.ref 10 0 ((0)+1))) 1),none,some (.row [(pc s.pieces a).enc] 7),none,none,none,none,none,none,some (.row r 3)]:List (Option Blk))) (hq _))
   |succ b=>
    refine qn1 rfl rfl (by rw[Nat.zero_add];exact qIy _ hlt) rfl ?_
    refine gg rfl (q02 rfl rfl hex (gg rfl (q1b rfl rfl rfl rfl rfl rfl (by simp[qJi]) (Nat.zero_le _) (by simp[q0M,qJi];omega) ?_)))
    refine gg rfl ?_
    rw[Nat.zero_add]
    refine q0H a rfl rfl rfl rfl rfl hlt (gg rfl ?_)
    rw[Nat.zero_add]
    refine qy5 rfl rfl rfl (Nat.zero_le _) (qIy _ hlt) rfl ?_
    rw[qJJ]
    refine gg rfl (q04 (hN2 ((b+1)+1) hlb (by omega) ?_))
    rw[←w2]
    refine qIY (live0:=[(1,0),(5,0),(6,0),(7,0),(24,0),(25,0),(26,0),(32,0),(33,0),(34,0)]) (x:=7340037) (.ref 65 0 ((b+1)+1)) rfl rfl ?_ rfl ?_ ?_ rfl ?_ rfl
    ·show nth (qIm s a (.ref 65 0 ((b+1)+1))) (0+a)=_
     rw[qFn,Nat.zero_add a,List.getD_eq_getElem?_getD,qIy _ hlt];rfl
    ·show((qIm s a (.ref 65 0 ((b+1)+1))).all (okD 0 _)&&true)=true
     rw[qJ0 _ _ _ _ rfl];rfl
    ·show(qIz s a (b+1)++[(qk1 s a (b+1)).enc]).all (okD 0 _)=true
     rw[←qIR,qJL]
    have hq:∀ids,(qIz s a (b+1)++[(qk1 s a (b+1)).enc]).map (qII 0 ids)=qIz s a ((b+1)+1):=fun ids=>by rw[←qIR,qJM]
    exact(congrArg (fun r:List D=>([some (.row [s.enc] 7),some (.row r 1),none,some (.row [(pc s.pieces a).enc] 7),none,none,none,none,none,none,some (.row ((qIz s a (b+1)++[(qk1 s a (b+1)).enc]).map (qII 0 [some 0,some 1,none,some 3,none,none,none,none,none,none,some 65])) 3)]:List (Option Blk))) (qIP _ _ _ _)).trans (congrArg (fun r:List D=>([some (.row [s.enc] 7),some (.row (qIm s a (.ref 10 0 ((b+1)+1))) 1),none,some (.row [(pc s.pieces a).enc] 7),none,none,none,none,none,none,some (.row r 3)]:List (Option Blk))) (hq _))
  rw[q07]at f
  obtain rfl:b=s.mults.length:=by omega
  clear hN2
  refine gg rfl (q04 (gg rfl (q04 (hN (a+1) hlt (by omega) ?_))))
  rw[←w1]
  obtain⟨w',hw'⟩:∃w',s.mults.length=w'+1:=⟨s.mults.length-1,by omega⟩
  have hnx:=qKn s a
  have hd0:dB s.mults.length=.ref 10 0 s.mults.length:=by rw[hw'];rfl
  have hb0:blkB s a s.mults.length=some (.row (qIz s a s.mults.length) 3):=by rw[hw'];rfl
  rw[hd0,hb0]
  refine qKR rfl rfl (plain6 rfl (qGR rfl rfl (qKG hlt rfl) (qKo (qKp rfl (qJi s a _).symm (qJK s a _)))) rfl rfl rfl rfl) rfl ?_ rfl ?_ ?_
  ·show((qIm s a (.lst (qIz s a s.mults.length))).all (okD 0 _)&&true)=true
   rw[qJ0 _ _ _ _ rfl];rfl
  ·have hq:∀ids,(qIm s a (.lst (qIz s a s.mults.length))).map (qII 0 ids)=qIm s (a+1) .nilsl:=fun ids=>by rw[qIP];exact hnx
   exact congrArg (fun r:List D=>([some (.row [s.enc] 7),some (.row r 1),none,none,none,none]:List (Option Blk))) (hq _)
  show q8v 0 _ 0 (q8k _ _ ((qIm s a (.ref 10 0 s.mults.length)).flatMap (q0P _ depth))) _ 0=_
  rw[qK2 (es:=qIz s a s.mults.length) (sz:=3) hlt rfl (qJK s a _)]
  rfl
 rw[q07]at e
 obtain rfl:a=s.pieces.length:=by omega
 clear hN
 have hsm:=qKE s h
 have hun:=qKm s s.mults.length hm1 (by omega) (fun u hu=>⟨(hok.use u hu).1,(hok.use u hu).2.1⟩) (by have:=hok.uses;omega)
 have hq:qIm s s.pieces.length .nilsl=qDM s.pieces.length s.mults.length (qk1 s):=qKI s
 rw[hq]
 refine gg rfl (q04 (gg rfl (qjT rfl rfl (qHS s s.pieces.length s.mults.length (qk1 s) (by omega) (by omega) ⟨rfl,rfl,rfl,rfl⟩ ?_))))
 intro h' z' hr hz hold
 obtain⟨g0,g1,g2,g3⟩:=hold
 obtain⟨hh,rfl⟩:∃hh:q0e,h'=upd (upd (upd hh 0 (some (.row [s.enc] 7))) 1 (some (.row (qDM s.pieces.length s.mults.length (qk1 s)) 1))) 141 (some (.row ((q1W 1 (o1 (qk1 s)) s.pieces.length s.mults.length++q1W 2 (o2 (qk1 s)) s.pieces.length s.mults.length).map Iss.enc) 3)):=⟨h',by rw[qn3 g0,qn3 g2,qn3 hr]⟩
 obtain⟨zz,rfl⟩:∃zz:Frz,z'=upd (upd (upd zz 0 0) 1 0) 141 0:=⟨z',by rw[qn3 g1,qn3 g3,qn3 hz]⟩
 clear g0 g1 g2 g3 hr hz
 have q:∀(kd:Int) (P:Nat→Nat→Bool) (n:Nat),n≤24→(q1W kd P n s.mults.length).length≤24*12:=fun kd P n hn=>Nat.le_trans (q3X kd P n _) (Nat.mul_le_mul hn hm12)
 have q1:=q 1 (o1 (qk1 s)) s.pieces.length (by omega)
 have q2:=q 2 (o2 (qk1 s)) s.pieces.length (by omega)
 have q3:=q 3 (o3 s) s.seams.length hok.seams
 have q4:=q 4 (o4 s) s.seams.length hok.seams
 have q6:=q 6 (o6 s) s.pieces.length (by omega)
 unfold qId
 generalize q1W 6 (o6 s) s.pieces.length s.mults.length=L6 at*
 generalize hA1:q1W 1 (o1 (qk1 s)) s.pieces.length s.mults.length++q1W 2 (o2 (qk1 s)) s.pieces.length s.mults.length=A1 at*
 generalize hA2:q1W 3 (o3 s) s.seams.length s.mults.length++q1W 4 (o4 s) s.seams.length s.mults.length=A2 at*
 have hl1:A1.length≤600:=by rw[←hA1,List.length_append];omega
 have hl2:A2.length≤600:=by rw[←hA2,List.length_append];omega
 clear hA1 hA2 q1 q2 q3 q4
 refine gg rfl (qHz [1] rfl rfl ⟨q2s (by simp[qDM]) (q0W (fun _=>rfl) _),trivial⟩ (by rw[q2t (by simp[qDM])];exact hsm) rfl (by show([]++(q0P _ (11+1) (.ref 1 0 _)++[]))=_;rw[qA8 rfl (q0W (fun _=>rfl) _)];rfl) ?_)
 refine gg rfl (qAq rfl rfl rfl (q1o (n:=3) (fun _=>rfl) _) (by simp) (Nat.zero_le _) (by simp[q0M];omega) ?_)
 rw[←List.map_append]
 refine gg rfl ?_
 have hgl:(qDM s.pieces.length s.mults.length (qk1 s)).length=s.pieces.length:=by simp[qDM]
 refine q0l (S:=fun i:Nat=>([.ptr 0 0 0,.ref 1 0 (A1++A2++q1W 5 (o5 s) i s.mults.length).length,.ref 2 0 s.pieces.length,q00 s.pieces.length,q00 i],[some (.row [s.enc] 7),some (.row ((A1++A2++q1W 5 (o5 s) i s.mults.length).map Iss.enc) 3),some (.row (qDM s.pieces.length s.mults.length (qk1 s)) 1),none,none],[0,0,(qDM s.pieces.length s.mults.length (qk1 s)).length,0,0])) (C:=fun i=>i≤s.pieces.length) (m:=fun i=>s.pieces.length-i) 0 (Nat.zero_le _) (by omega) ?_ ?_
 ·refine qIe rfl rfl ⟨rfl,q05 q0L _,q2D _ _ _,trivial⟩ rfl rfl rfl ?_
  have e0:A1++A2++q1W 5 (o5 s) 0 s.mults.length=A1++A2:=by simp[q1W]
  rw[e0,show(A1++A2).length=A1.length+(A2.map Iss.enc).length by simp]
  rfl
 intro i hi N hN
 refine gg rfl (q01 rfl (fun e=>?_) (fun e=>?_))
 ·rw[q06]at e
  have hlt:i<s.pieces.length:=by omega
  have w1:=wS (n:=i)
  have l5:=q3X 5 (o5 s) i s.mults.length
  have hiw:i*s.mults.length≤12*12:=Nat.mul_le_mul (by omega) hm12
  have ps:=q4D 5 (o5 s) i s.mults.length
  have r0:=qKF s i
  generalize q1W 5 (o5 s) i s.mults.length=A5 at*
  refine gg rfl ?_
  rw[Nat.zero_add]
  refine q0H i rfl rfl rfl rfl rfl hlt (gg rfl (qn1 rfl rfl (by rw[Nat.zero_add];exact qj0 (qk1 s) hlt) rfl ?_))
  refine gg rfl (q0l (S:=fun z:Nat=>([.ptr 0 0 0,.ref 1 0 (A1++A2++A5++q5M 5 (o5 s) i z).length,q00 i,q9Q s.mults.length (qk1 s i),q00 z,.ref 5 0 s.pieces.length,q00 s.pieces.length,q00 i],[some (.row [s.enc] 7),some (.row ((A1++A2++A5++q5M 5 (o5 s) i z).map Iss.enc) 3),none,none,none,some (.row (qDM s.pieces.length s.mults.length (qk1 s)) 1),none,none],[0,0,0,0,0,(qDM s.pieces.length s.mults.length (qk1 s)).length,0,0])) (C:=fun z=>1≤z∧z≤s.mults.length) (m:=fun z=>s.mults.length-z) 1 ⟨Nat.le_refl _,hm1⟩ (by omega) ?_ ?_)
  ·refine qIe rfl rfl ⟨rfl,q05 q0L _,q2D _ _ _,trivial⟩ rfl rfl rfl ?_
   rw[r0,List.append_nil]
   rfl
  rintro z ⟨hz1,hz⟩ N2 hN2
  refine gg rfl ?_
  rw[List.length_map,List.length_map,List.length_range]
  refine q01 rfl (fun f=>?_) (fun f=>?_)
  ·rw[q06]at f
   have hlz:z<s.mults.length:=by omega
   have w2:=wS (n:=z)
   have w3:IntKind.i64.wrap ((z:Int)-1)=((z-1:Nat):Int):=by rw[wrap64 (by omega) (by omega)];omega
   have k5:=qbA 5 (o5 s) i z
   have rs:=row_step 5 (o5 s) i z
   have eo:o5 s i z=(decide (mz s (z-1)<mz s z)&&((qk1 s i (z-1)).outline&&((qk1 s i z).outline&&decide ((qk1 s i z).area<(qk1 s i (z-1)).area)))):=by unfold o5;rw[decide_eq_true hz1,Bool.true_and]
   have m1:(s.mults.map q00)[z]?=some (.int .i64 (mz s z)):=q7f hlz
   have m2:(s.mults.map q00)[z-1]?=some (.int .i64 (mz s (z-1))):=q7f (by omega)
   have g1:=qiZ (qk1 s i) hlz
   have g2:=qiZ (w:=s.mults.length) (z:=z-1) (qk1 s i) (by omega)
   have hsh:=qIc (qk1 s i (z-1)) (qk1 s i z)
   generalize ((qk1 s i (z-1)).outline&&((qk1 s i z).outline&&decide ((qk1 s i z).area<(qk1 s i (z-1)).area)))=b at*
   generalize qk1 s i (z-1)=G1 at*
   generalize hG2:qk1 s i z=G2 at*
   generalize mz s (z-1)=M1 at*
   generalize mz s z=M2 at*
   generalize q5M 5 (o5 s) i z=R5 at*
   refine gg rfl (q0i z rfl rfl rfl m1 rfl (gg rfl ?_))
   rw[w3]
   refine q0i (z-1) rfl rfl rfl m2 rfl (gg rfl (q09 rfl (fun c=>?_) (fun c=>?_)))
   ·rw[q06]at c
    rw[decide_eq_true c,Bool.true_and]at eo
    refine gg rfl ?_
    rw[w3]
    refine q0i (z-1) rfl rfl rfl g2 rfl (gg rfl (q0i z rfl rfl rfl g1 rfl (gg rfl (q02 rfl rfl hsh ?_))))
    cases b with
    |false=>
     have e5:q5M 5 (o5 s) i (z+1)=R5:=by rw[rs,eo];simp
     refine gg rfl (q0j rfl (gg rfl (q04 (hN2 (z+1) ⟨by omega,by omega⟩ (by omega) (qIe rfl rfl ⟨rfl,q05 q0L _,q2D _ _ _,trivial⟩ rfl rfl rfl ?_)))))
     rw[e5,←w2];rfl
    |true=>
     have e5:A1++A2++A5++q5M 5 (o5 s) i (z+1)=A1++A2++A5++R5++[⟨5,(i:Nat),(z:Nat)⟩]:=by rw[rs,eo];simp
     refine gg rfl (q0d rfl (gg rfl (q1b rfl rfl rfl rfl rfl rfl (by simp) (Nat.zero_le _) (by simp[q0M];omega) ?_)))
     refine gg rfl (q04 (hN2 (z+1) ⟨by omega,by omega⟩ (by omega) (qIe rfl rfl ⟨rfl,?_,q2D _ _ _,trivial⟩ rfl rfl rfl ?_)))
     ·rw[List.all_append,q05 q0L];rfl
     rw[e5,←w2]
     generalize A1++A2++A5++R5=B
     have e6:(B++[(⟨5,(i:Nat),(z:Nat)⟩:Iss)]).length=B.length+1:=by simp
     rw[e6,List.map_append];rfl
   rw[q07]at c
   rw[decide_eq_false (by omega),Bool.false_and]at eo
   have e5:q5M 5 (o5 s) i (z+1)=R5:=by rw[rs,eo];simp
   refine gg rfl (q0j rfl (gg rfl (q04 (hN2 (z+1) ⟨by omega,by omega⟩ (by omega) (qIe rfl rfl ⟨rfl,q05 q0L _,q2D _ _ _,trivial⟩ rfl rfl rfl ?_)))))
   rw[e5,←w2];rfl
  rw[q07]at f
  obtain rfl:z=s.mults.length:=by omega
  clear hN2
  refine gg rfl (q04 (gg rfl (q04 (hN (i+1) (by omega) (by omega) (qIe rfl rfl ⟨rfl,q05 q0L _,q2D _ _ _,trivial⟩ rfl rfl rfl ?_)))))
  rw[ps,←List.append_assoc,←w1];rfl
 rw[q07]at e
 obtain rfl:i=s.pieces.length:=by omega
 have l5:=q3X 5 (o5 s) s.pieces.length s.mults.length
 have hiw:s.pieces.length*s.mults.length≤12*12:=Nat.mul_le_mul hp12 hm12
 clear hN
 generalize q1W 5 (o5 s) s.pieces.length s.mults.length=A5 at*
 refine gg rfl (q04 (gg rfl (q02 rfl rfl hun (gg rfl (qAq rfl rfl rfl (q1o (n:=3) (fun _=>rfl) _) (by simp) (Nat.zero_le _) (by simp[q0M];omega) ?_)))))
 refine gg rfl (q08 rfl rfl rfl ⟨q2s (by simp[Nat.add_assoc]) ?_,trivial⟩ ?_)
 ·rw[List.all_append,q0W qeV,q0W qeV];rfl
 rw[q2t (by simp[Nat.add_assoc]),←List.map_append];rfl
end Go.F

namespace Go.F
theorem qIF (s:Sty)(hp:s.pieces.length≤1000)(hs:s.seams.length≤1000)(hm:s.mults.length≤1000):(qId s).length≤6000000:=by
 have p:∀(kd:Int) (P:Nat→Nat→Bool) (n:Nat),n≤1000→(q1W kd P n s.mults.length).length≤1000000:=fun kd P n hn=>Nat.le_trans (q3X kd P n _) (Nat.mul_le_mul hn hm)
 unfold qId
 simp only[List.length_append]
 have h1:=p 1 (o1 (qk1 s)) _ hp
 have h2:=p 2 (o2 (qk1 s)) _ hp
 have h3:=p 3 (o3 s) _ hs
 have h4:=p 4 (o4 s) _ hs
 have h5:=p 5 (o5 s) _ hp
 have h6:=p 6 (o6 s) _ hp
 omega
end Go.F

namespace Go.F
attribute [local irreducible] IntKind.wrap wpM
theorem q9G (n m:Int)(h0:0≤m)(h1:m≤1000000):PU qtP [.int .i64 n,.int .i64 m]=some (.bool (inB n m)):=by
 have w:IntKind.i64.wrap (0-m)= -m:=by rw[wrap64 (by omega) (by omega)];omega
 have w':IntKind.i64.wrap (-m)= -m:=ww
 refine q0g (fn:=qhl) rfl (q0a ?_)
 refine gg rfl ?_
 repeat' (first
  |refine goP 800 rfl rfl ?_
  |refine q0h rfl ?_|refine q0n rfl ?_|refine q09 rfl (fun _=>?_) (fun _=>?_)
  |refine q0d rfl ?_|refine q0j rfl ?_|refine q01 rfl (fun _=>?_) (fun _=>?_)
  |refine q0N rfl (fun _=>?_) (fun _=>?_)
  |refine q08 rfl rfl rfl trivial ?_)
 all_goals (try simp only[w,w']at*)
 all_goals ((try simp only[q1J,q27,q2e,q40,decide_eq_true_eq,decide_eq_false_iff_not,Bool.not_eq_true,Bool.not_eq_false,Int.not_lt,Int.not_le]at*);first|(simp_all[inB];done) |(simp_all[inB];omega) |(rw[D.bool.injEq,Bool.eq_iff_iff];simp[inB];omega) |(rw[D.bool.injEq,Bool.eq_iff_iff];simp_all[inB];omega) |(simp[inB];split<;>(try split)<;>omega))
theorem qiu (a b:Int)(ha0: -1099511627776≤a)(ha:a≤1099511627776)(hb:0<b)(hb':b≤1099511627776):PU qwy [.int .i64 a,.int .i64 b]=some (.int .i64 (q1u a b)):=by
 have w3:=ww (x:=2*b)
 refine q0g (fn:=qkQ) rfl (q0a ?_)
 refine gg rfl (q01 rfl (fun h=>?_) (fun h=>?_))
 ·rw[q06]at h
  have w1:=ww (x:= -2*a)
  have w2:=ww (x:= -2*a+b)
  refine gg rfl (qem rfl rfl (by rw[w3];omega) ?_)
  refine gg rfl (q08 rfl rfl rfl trivial ?_)
  have hd:(-2*a+b).tdiv (2*b)=(-2*a+b)/(2*b):=Int.tdiv_eq_ediv_of_nonneg (by omega)
  have hq:(-2*a+b)/(2*b)≤ -2*a+b:=Int.ediv_le_self _ (by omega)
  have hq0:0≤(-2*a+b)/(2*b):=Int.ediv_nonneg (by omega) (by omega)
  rw[w1,w2,w3,hd,wrap64 (x:=(-2*a+b)/(2*b)) (by omega) (by omega),wrap64 (by omega) (by omega),q1u,if_pos (by omega),show 2* -a+b= -2*a+b by omega]
  simp
 rw[q07]at h
 have w1:=ww (x:=2*a)
 have w2:=ww (x:=2*a+b)
 refine gg rfl (qem rfl rfl (by rw[w3];omega) ?_)
 refine gg rfl (q08 rfl rfl rfl trivial ?_)
 have hd:(2*a+b).tdiv (2*b)=(2*a+b)/(2*b):=Int.tdiv_eq_ediv_of_nonneg (by omega)
 have hq:(2*a+b)/(2*b)≤2*a+b:=Int.ediv_le_self _ (by omega)
 have hq0:0≤(2*a+b)/(2*b):=Int.ediv_nonneg (by omega) (by omega)
 rw[w1,w2,w3,hd,wrap64 (by omega) (by omega),q1u,if_neg (by omega)]
set_option maxHeartbeats 4000000 in
theorem qri (e:Edge)(a b:Spot)(h2:2≤e.line.length)(h40:e.line.length≤40)(hw:∀s∈e.line,q0v s 1048576=true)(ha:qi4 a 100000)(hb:qi4 b 100000):
 PU qtQ [e.enc,a.enc,b.enc]=some (Edge.enc ⟨e.name,qtB e.line a b⟩):=by
 obtain⟨name,l⟩:=e
 simp only at h2 h40 hw⊢
 have w0:=ww (x:=(l.length:Int)-1)
 refine q0g (fn:=qhn) rfl (q0a ?_)
 refine gg rfl ?_
 rw[List.length_map,w0]
 refine q0l (S:=fun k:Nat=>([.ptr 0 0 0,.ptr 1 0 0,.ptr 2 0 0,.ptr 3 0 0,.ptr 4 0 0,.int .i64 ((l.length:Int)-1),q00 k,.bad],[some (.row [Edge.enc ⟨name,l⟩] 2),some (.row [a.enc] 2),some (.row [b.enc] 2),some (.row [.agg [.str ⟨#[]⟩,.nilsl]] 2),some (.row [.agg [.str name,.ref 7 0 k]] 2),none,none,some (.row (((List.range k).map (qeX l a b)).map Spot.enc) 2)],[0,0,0,0,0,0,0,0])) (C:=fun k=>k≤l.length) (m:=fun k=>l.length-k) 0 (Nat.zero_le _) (by omega) ?_ ?_
 ·exact qB7 rfl rfl rfl rfl rfl rfl
 intro k hk N hN
 refine gg rfl (q01 rfl (fun e1=>?_) (fun e1=>?_))
 ·rw[q0E]at e1
  have hlt:k<l.length:=by omega
  have w1:=wS (n:=k)
  have hin:=hw (pt l k) (by rw[q0D hlt];exact List.getElem_mem _)
  rw[q1B]at hin
  have c1:=qmU hlt h40 ha.1 hb.1
  have c2:=qmU hlt h40 ha.2 hb.2
  have d0:IntKind.i64.wrap ((l.length:Int)-1-(k:Int))=(l.length:Int)-1-k:=ww
  have d1:=ww (x:=((l.length:Int)-1-k) *a.x)
  have d2:=ww (x:=(k:Int) *b.x)
  have d3:=ww (x:=((l.length:Int)-1-k) *a.x+(k:Int) *b.x)
  have d4:=ww (x:=((l.length:Int)-1-k) *a.y)
  have d5:=ww (x:=(k:Int) *b.y)
  have d6:=ww (x:=((l.length:Int)-1-k) *a.y+(k:Int) *b.y)
  have q1:=qiu (((l.length:Int)-1-k) *a.x+(k:Int) *b.x) ((l.length:Int)-1) (by omega) (by omega) (by omega) (by omega)
  have q2:=qiu (((l.length:Int)-1-k) *a.y+(k:Int) *b.y) ((l.length:Int)-1) (by omega) (by omega) (by omega) (by omega)
  have hst:(((List.range (k+1)).map (qeX l a b)).map Spot.enc)=((List.range k).map (qeX l a b)).map Spot.enc++[(qeX l a b k).enc]:=by
   rw[List.range_succ,List.map_append,List.map_append];rfl
  have hro:=fun ids=>qCK ids ((List.range (k+1)).map (qeX l a b))
  have hrr:=fun ids=>qCL ids ((List.range (k+1)).map (qeX l a b))
  have r1:=q8O (a:=((l.length:Int)-1-k) *a.x+(k:Int) *b.x) (b:=(l.length:Int)-1) (m:=8000000) (by omega) (by omega) (by omega)
  have r2:=q8O (a:=((l.length:Int)-1-k) *a.y+(k:Int) *b.y) (b:=(l.length:Int)-1) (m:=8000000) (by omega) (by omega) (by omega)
  have d7:=ww (x:=(pt l k).x+q1u (((l.length:Int)-1-k) *a.x+(k:Int) *b.x) ((l.length:Int)-1))
  have d8:=ww (x:=(pt l k).y+q1u (((l.length:Int)-1-k) *a.y+(k:Int) *b.y) ((l.length:Int)-1))
  refine gg rfl ?_
  rw[d0,d1,d2,d3]
  refine q02 rfl rfl q1 (gg rfl ?_)
  rw[d0,d4,d5,d6]
  refine q02 rfl rfl q2 (gg rfl (q0i k rfl rfl rfl (q0Q hlt) rfl (gg rfl ?_)))
  rw[d7]
  refine q0i k rfl rfl rfl (q0Q hlt) rfl (gg rfl ?_)
  rw[d8]
  refine q1b rfl rfl rfl rfl rfl rfl (by simp) (Nat.zero_le _) (by simp[q0M];omega) ?_
  refine gg rfl (q04 ?_)
  have hst2:((List.range k).map (qeX l a b)).map Spot.enc++[.agg [.int .i64 ((pt l k).x+q1u (((l.length:Int)-1-k) *a.x+(k:Int) *b.x) ((l.length:Int)-1)),.int .i64 ((pt l k).y+q1u (((l.length:Int)-1-k) *a.y+(k:Int) *b.y) ((l.length:Int)-1))]]=((List.range (k+1)).map (qeX l a b)).map Spot.enc:=hst.symm
  rw[hst2,w1]
  refine hN (k+1) (by omega) (by omega) (qB7 rfl rfl ?_ rfl ?_ rfl)
  ·show((((List.range (k+1)).map (qeX l a b)).map Spot.enc).all (okD 0 _)&&true)=true
   rw[hro];rfl
  exact congrArg (fun r:List D=>([some (.row [Edge.enc ⟨name,l⟩] 2),some (.row [a.enc] 2),some (.row [b.enc] 2),some (.row [.agg [.str ⟨#[]⟩,.nilsl]] 2),some (.row [.agg [.str name,.ref 7 0 (k+1)]] 2),none,none,some (.row r 2)]:List (Option Blk))) (hrr _)
 rw[q0F]at e1
 obtain rfl:k=l.length:=by omega
 refine gg rfl (q04 (gg rfl (q08 rfl rfl rfl ⟨q2s (by simp) (q0W q2r _),trivial⟩ ?_)))
 rw[q2t (by simp)];rfl
end Go.F

namespace Go.F
attribute [local irreducible] IntKind.wrap wpM
set_option maxHeartbeats 4000000 in
theorem q3e (p:Piece)(m:Int)(hc:p.corners.length≤1000000):PU qtJ [p.enc,.int .i64 m]=some (encGr (q0p p m)):=by
 refine q0g (fn:=qgN) rfl (q0a ?_)
 refine gg rfl (q02 rfl rfl (q9G m 100 (by decide) (by decide)) ?_)
 cases hm:inB m 100 with
 |false=>
  refine gg rfl (q0d rfl (gg rfl (q08 rfl rfl rfl trivial ?_)))
  rw[q0p,if_pos hm];rfl
 |true=>
  have hm1:¬inB m 100=false:=by rw[hm];decide
  rw[qeI]at hm
  refine gg rfl (q0j rfl (gg rfl ?_))
  rw[List.length_map,List.length_map]
  refine q01 rfl (fun g1=>?_) (fun g1=>?_)
  ·rw[q0u]at g1
   refine gg rfl (q08 rfl rfl rfl trivial ?_)
   rw[q0p,if_neg hm1,if_pos (by omega)];rfl
  rw[q0z]at g1
  have g1':p.corners.length=p.edges.length:=by omega
  refine gg rfl (q0l (S:=fun k:Nat=>([.int .i64 m,.ptr 1 0 0,q00 p.edges.length,q00 k],[none,some (.row [p.enc] 7),none,none],[0,0,0,0])) (C:=fun k=>k≤p.corners.length∧∀j (hj:j<p.corners.length),j<k→(inB p.corners[j].x 1000&&inB p.corners[j].y 1000)=true) (m:=fun k=>p.corners.length-k) 0 ⟨Nat.zero_le _,fun j _ hj=>by omega⟩ (by omega) ?_ ?_)
  ·exact q03 rfl ⟨rfl,trivial⟩ (by simp[q0k,q00,Piece.enc,edges,qgD,ints])
  rintro k ⟨hk,hin⟩ N hN
  refine gg rfl (q01 rfl (fun e1=>?_) (fun e1=>?_))
  ·rw[q06]at e1
   have hlt:k<p.corners.length:=by omega
   have w1:=wS (n:=k)
   have hx:=q9G (pt p.corners k).x 1000 (by decide) (by decide)
   have hy:=q9G (pt p.corners k).y 1000 (by decide) (by decide)
   have bad:(inB (pt p.corners k).x 1000&&inB (pt p.corners k).y 1000)=false→q0p p m=([],3):=by
    intro h
    rw[q0p,if_neg hm1,if_neg (by omega),if_pos]
    refine q29 hlt ?_
    rw[←q0D hlt,h];rfl
   refine gg rfl (q0i k rfl rfl rfl (q0Q hlt) rfl (gg rfl (q02 rfl rfl hx ?_)))
   cases bx:inB (pt p.corners k).x 1000 with
   |false=>
    refine gg rfl (q0h rfl (gg rfl (q0d rfl (gg rfl (q04 (gg rfl (q08 rfl rfl rfl trivial ?_)))))))
    rw[bad (by rw[bx];rfl)];rfl
   |true=>
    refine gg rfl (q0n rfl (gg rfl (q0i k rfl rfl rfl (q0Q hlt) rfl (gg rfl (q02 rfl rfl hy ?_)))))
    cases by':inB (pt p.corners k).y 1000 with
    |false=>
     refine gg rfl (q0d rfl (gg rfl (q04 (gg rfl (q08 rfl rfl rfl trivial ?_)))))
     rw[bad (by rw[bx,by'];rfl)];rfl
    |true=>
     refine gg rfl (q0j rfl (gg rfl (q04 (hN (k+1) ⟨hlt,fun j hj hjk=>?_⟩ (by omega) (q03 rfl ⟨rfl,trivial⟩ (by simp[q0k,q00,Piece.enc,edges,qgD,ints,w1]))))))
     by_cases e:j=k
     ·subst e;rw[←q0D hj,bx,by'];rfl
     exact hin j hj (by omega)
  rw[q07]at e1
  obtain rfl:k=p.corners.length:=by omega
  clear hN
  have hany:¬(p.corners.any fun s=>!(inB s.x 1000&&inB s.y 1000))=true:=by
   rw[q1Z fun k hk=>by rw[hin k hk hk];rfl];decide
  have hnear:∀s∈p.corners,qi4 s 1000:=by
   intro s hs
   obtain⟨j,hj,rfl⟩:=List.getElem_of_mem hs
   have:=hin j hj hj
   rw[Bool.and_eq_true,qeI,qeI]at this
   exact⟨by omega,by omega⟩
  refine gg rfl (q04 (gg rfl (q02 rfl rfl (q7u p.edges) (gg rfl (q01 rfl (fun g2=>?_) (fun g2=>?_))))))
  ·rw[q0u]at g2
   refine gg rfl (q08 rfl rfl rfl trivial ?_)
   rw[q0p,if_neg hm1,if_neg (by omega),if_neg hany,if_pos g2];rfl
  have g2:q0J p.edges=0:=q0z.1 g2
  obtain⟨c1,c2,c3,c4,c5⟩:=q11 g2
  have hr:q0p p m=if q0J (q3E p m)≠0 then([],q0J (q3E p m))else(q3E p m,0):=by
   rw[q0p,if_neg hm1,if_neg (by omega),if_neg hany,if_neg (by omega)]
  rw[hr]
  have hm2:m.natAbs≤100:=by omega
  refine gg rfl (q0l (S:=fun k:Nat=>([.int .i64 m,.ptr 1 0 0,q00 p.edges.length,.ref 3 0 k,q00 k],[none,some (.row [p.enc] 7),none,some (.row (((List.range k).map (q79 p m)).map Edge.enc) 2),none],[0,0,0,0,0])) (C:=fun k=>k≤p.edges.length) (m:=fun k=>p.edges.length-k) 0 (Nat.zero_le _) (by omega) ?_ ?_)
  ·exact q03 rfl ⟨rfl,rfl,trivial⟩ rfl
  intro k hk N hN
  refine gg rfl (q01 rfl (fun e2=>?_) (fun e2=>?_))
  ·rw[q06]at e2
   have hlt:k<p.edges.length:=by omega
   have w1:=wS (n:=k)
   have hL:=q2P (q1a c3 hlt)
   obtain⟨n2,n40,hw⟩:=q2k hL
   have na:=q8q hnear hm2 (by omega) k
   have nb:=q8q hnear hm2 (by omega) (k+1)
   have mv:=qri (eg p.edges k) (q7j p.corners m k) (q7j p.corners m (k+1)) n2 n40 hw na nb
   have hst:(((List.range (k+1)).map (q79 p m)).map Edge.enc)=((List.range k).map (q79 p m)).map Edge.enc++[(q79 p m k).enc]:=by
    rw[List.range_succ,List.map_append,List.map_append];rfl
   have hka:q7j p.corners m k=⟨m*(pt p.corners k).x,m*(pt p.corners k).y⟩:=by unfold q7j;rw[Nat.mod_eq_of_lt (by omega)]
   have hkb:q7j p.corners m (k+1)=⟨m*(pt p.corners ((k+1)%p.edges.length)).x,m*(pt p.corners ((k+1)%p.edges.length)).y⟩:=by unfold q7j;rw[g1']
   have hge:q79 p m k=⟨(eg p.edges k).name,qtB (eg p.edges k).line ⟨m*(pt p.corners k).x,m*(pt p.corners k).y⟩ ⟨m*(pt p.corners ((k+1)%p.edges.length)).x,m*(pt p.corners ((k+1)%p.edges.length)).y⟩⟩:=by unfold q79;rw[hka,hkb]
   rw[hge]at hst
   have hml:(k+1)%p.edges.length<p.corners.length:=by rw[g1'];exact Nat.mod_lt _ (by omega)
   have hrem:(((k+1:Nat):Int)).tmod (p.edges.length:Nat)=(((k+1)%p.edges.length:Nat):Int):=by rw[Int.tmod_eq_emod_of_nonneg (by omega)];omega
   rw[hka,hkb]at mv
   rw[hka]at na
   rw[hkb]at nb
   obtain⟨na1,na2⟩:=na
   obtain⟨nb1,nb2⟩:=nb
   simp only at na1 na2 nb1 nb2
   generalize (k+1)%p.edges.length=k2 at*
   have wa:=ww (x:=m*(pt p.corners k).x)
   have wb:=ww (x:=m*(pt p.corners k).y)
   have wc:=ww (x:=m*(pt p.corners k2).x)
   have wd:=ww (x:=m*(pt p.corners k2).y)
   refine gg rfl (q0i k rfl rfl rfl (q0Q (by omega)) rfl ?_)
   refine gg rfl ?_
   rw[w1]
   refine q37 rfl rfl (by omega) ?_
   rw[hrem]
   refine gg rfl (q0i k2 rfl rfl rfl (q0Q hml) rfl (gg rfl (q0i k rfl rfl rfl (q1K hlt) rfl (gg rfl ?_))))
   rw[wa,wb,wc,wd]
   refine q02 rfl rfl mv (gg rfl (q1b rfl rfl rfl rfl rfl rfl (by simp) (Nat.zero_le _) (by simp[q0M];omega) ?_))
   refine gg rfl (q04 (hN (k+1) hlt (by omega) (q03 rfl ⟨rfl,?_,trivial⟩ ?_)))
   ·rw[List.all_append,q05 q39];rfl
   rw[hst];simp[q0k,edges,q00,w1];rfl
  rw[q07]at e2
  obtain rfl:k=p.edges.length:=by omega
  have hgl:(q3E p m).length=p.edges.length:=by simp[q3E]
  refine gg rfl (q04 (gg rfl (q6N rfl rfl ⟨q2s (by simp) (q0W q5O _),trivial⟩ (by rw[q2t (by simp)];exact q7u (q3E p m)) rfl ?_)))
  refine gg rfl (q01 rfl (fun g3=>?_) (fun g3=>?_))
  ·rw[q0u]at g3
   refine gg rfl (q08 rfl rfl rfl trivial ?_)
   rw[if_pos g3];rfl
  rw[q0z]at g3
  refine gg rfl (q08 rfl rfl rfl ⟨q2s (by simp) (q0W q5O _),trivial⟩ ?_)
  rw[q2t (by simp),if_neg (by simp[g3])];rfl
end Go.F

namespace Go.F
attribute [local irreducible] IntKind.wrap wpM
theorem quy (p:List Spot)(h:q1v p=0):PU qwF [q0k p]=some (.int .i64 (q36 p (p.length-1))):=by
 obtain⟨n2,n40,_⟩:=q2k h
 have hin:∀i,i<p.length→q0v (pt p i) 1048576=true:=fun i hi=>qbw h hi
 refine q0g (fn:=qlx) rfl (q0a ?_)
 refine gg rfl (q0l (S:=fun k:Nat=>([q0k p,q00 (q36 p k),q00 (k+1:Nat)],[none,none,none],[0,0,0])) (C:=fun k=>k≤p.length-1) (m:=fun k=>p.length-k) 0 (Nat.zero_le _) (by omega) ?_ ?_)
 ·exact q03 rfl trivial (by simp[q0k,q00,q36])
 intro k hk N hN
 refine gg rfl ?_
 rw[List.length_map]
 refine q01 rfl (fun g1=>?_) (fun g1=>?_)
 ·rw[q06]at g1
  have hlt:k+1<p.length:=by omega
  have w0:IntKind.i64.wrap (((k+1:Nat):Int)-1)=(k:Int):=by rw[wrap64 (by omega) (by omega)];omega
  have w1:=ww (x:=(k:Int)+1+1)
  have hin1:=hin k (by omega)
  have hin2:=hin (k+1) hlt
  have hsl':=qux hin1 hin2
  have hle:=qpH hin k (by omega)
  have w2:IntKind.i64.wrap ((q36 p k:Int)+(qeZ (pt p k) (pt p (k+1)):Int))=(q36 p (k+1):Int):=by rw[wrap64 (by omega) (by omega)];rfl
  refine gg rfl (q0i k rfl rfl w0 (q0Q (by omega)) rfl ?_)
  refine gg rfl (q0i (k+1) rfl rfl rfl (q0Q hlt) rfl (gg rfl (q02 rfl rfl (qpI (pt p k) (pt p (k+1)) hin1 hin2) (gg rfl ?_))))
  rw[w2]
  exact q04 (hN (k+1) (by omega) (by omega) (q03 rfl trivial (by simp[q0k,q00,w1])))
 rw[q07]at g1
 obtain rfl:k=p.length-1:=by omega
 exact gg rfl (q04 (gg rfl (q08 rfl rfl rfl trivial rfl)))
end Go.F

namespace Go.F
attribute [local irreducible] IntKind.wrap wpM
theorem q9H (p:List Spot):PU qtS [q0k p]=some (.tup [.int .i64 (q17 p).1,.int .i64 (q17 p).2]):=by
 refine q0g (fn:=qhB) rfl (q0a ?_)
 refine gg rfl (q02 rfl rfl (qiz p) (gg rfl (q01 rfl (fun h=>?_) (fun h=>?_))))
 ·rw[q0u]at h
  refine gg rfl (q08 rfl rfl rfl trivial ?_)
  rw[q17,if_neg h]
 rw[q0z]at h
 refine gg rfl (q02 rfl rfl (quy p h) (gg rfl (q08 rfl rfl rfl trivial ?_)))
 rw[q17,if_pos h]
theorem qzM {A rest c bit:Nat}(hc:0<c):2*(A*rest/c)+(2*(A*rest%c)+bit*rest)/c=(2*A+bit) *rest/c∧(2*(A*rest%c)+bit*rest)%c=(2*A+bit) *rest%c:=by
 have h1:=Nat.div_add_mod (A*rest) c
 have e:(2*A+bit) *rest=(2*(A*rest%c)+bit*rest)+c*(2*(A*rest/c)):=by
  have:(2*A+bit) *rest=2*(A*rest)+bit*rest:=by rw[Nat.add_mul,Nat.mul_assoc]
  rw[this]
  generalize A*rest=X at*
  generalize X/c=q at*
  generalize X%c=r at*
  rw[←h1,Nat.mul_add]
  rw[←Nat.mul_assoc c 2 q,Nat.mul_comm c 2,Nat.mul_assoc]
  omega
 rw[e,Nat.add_mul_div_left _ _ hc,Nat.add_mul_mod_self_left]
 exact⟨Nat.add_comm _ _,rfl⟩
theorem qDa (a k:Nat)(hk:k≤40):a/2^(40-k)=2*(a/2^(41-k))+a/2^(40-k)%2:=by
 have e:41-k=40-k+1:=by omega
 rw[e,Nat.pow_succ,←Nat.div_div_eq_div_mul]
 omega
set_option maxHeartbeats 4000000 in
theorem quA (a b c:Nat)(hc:0<c)(hc2:c≤1099511627776)(hb:b≤1099511627776)(ha:a≤c):
 PU qwG [.int .i64 a,.int .i64 b,.int .i64 c]=some (.int .i64 (q1u ((a:Int) *b) c)):=by
 have hr:=qmV (a:=a*b) hc
 rw[Int.natCast_mul]at hr
 rw[hr]
 have e1:((b:Int)).tdiv (c:Int)=((b/c:Nat):Int):=by rw[Int.tdiv_eq_ediv_of_nonneg (by omega)];rfl
 have e2:((b:Int)).tmod (c:Int)=((b%c:Nat):Int):=by rw[Int.tmod_eq_emod_of_nonneg (by omega)];rfl
 have hdm:=Nat.div_add_mod b c
 have hrest:=Nat.mod_lt b hc
 have hW:a*(b/c)≤b:=Nat.le_trans (Nat.mul_le_mul_right _ ha) (by rw[Nat.mul_comm];exact Nat.div_mul_le_self b c)
 have hW2:b/c≤b:=Nat.div_le_self _ _
 have hab:a*b=a*(b%c)+c*(a*(b/c)):=by
  conv=>lhs;rw[←hdm]
  rw[Nat.mul_add,←Nat.mul_assoc,Nat.mul_comm a c,Nat.mul_assoc,Nat.add_comm]
 have hq:a*b/c=a*(b/c)+a*(b%c)/c:=by rw[hab,Nat.add_mul_div_left _ _ hc,Nat.add_comm]
 have hm:a*b%c=a*(b%c)%c:=by rw[hab,Nat.add_mul_mod_self_left]
 rw[hq,hm]
 generalize b/c=wh at*
 generalize b%c=rest at*
 clear hr hab hq hm hdm
 have w0:=ww (x:=(wh:Int))
 have w1:IntKind.i64.wrap ((a:Int) *(wh:Int))=((a*wh:Nat):Int):=by
  rw[←Int.natCast_mul]
  generalize a*wh=x at*
  exact wrap64 (by omega) (by omega)
 have hpow:a/2^41=0:=Nat.div_eq_of_lt (by omega)
 refine q0g (fn:=qkt) rfl (q0a ?_)
 refine gg rfl (qem rfl rfl (by omega) ?_)
 rw[e1,w0]
 refine gg rfl (q37 rfl rfl (by omega) ?_)
 rw[e2]
 refine gg rfl ?_
 rw[w1]
 refine q0l (S:=fun k:Nat=>([.int .i64 a,.int .i64 c,.int .i64 rest,.int .i64 ((a*wh:Nat):Int),.int .i64 ((a/2^(41-k) *rest/c:Nat):Int),.int .i64 ((a/2^(41-k) *rest%c:Nat):Int),.int .i64 (40-(k:Int))],[none,none,none,none,none,none,none],[0,0,0,0,0,0,0])) (C:=fun k=>k≤41) (m:=fun k=>41-k) 0 (Nat.zero_le _) (by omega) ?_ ?_
 ·refine q03 rfl trivial ?_
  show _=([D.int .i64 a,.int .i64 c,.int .i64 rest,.int .i64 ((a*wh:Nat):Int),.int .i64 ((a/2^41*rest/c:Nat):Int),.int .i64 ((a/2^41*rest%c:Nat):Int),.int .i64 (40-((0:Nat):Int))],_,_)
  rw[hpow]
  simp
 intro k hk N hN
 refine gg rfl (q01 rfl (fun g=>?_) (fun g=>?_))
 ·rw[q0E]at g
  have hk40:k≤40:=by omega
  have hh:=qDa a k hk40
  have hB:a/2^(40-k)≤a:=Nat.div_le_self _ _
  have hbit:a/2^(40-k)%2<2:=Nat.mod_lt _ (by decide)
  have hs:=qzM (A:=a/2^(41-k)) (rest:=rest) (c:=c) (bit:=a/2^(40-k)%2) hc
  rw[←hh]at hs
  have hl:=Nat.mod_lt (a/2^(41-k) *rest) hc
  have hq:a/2^(40-k) *rest/c≤a:=Nat.le_trans (Nat.div_le_of_le_mul (by rw[Nat.mul_comm];exact Nat.mul_le_mul_right _ (by omega))) hB
  have sh:IntKind.u64.wrap (40-(k:Int))=((40-k:Nat):Int):=by
   rw[show(40-(k:Int))=((40-k:Nat):Int)by omega];exact q0C (by omega)
  have ek:(40-((k+1:Nat):Int))=40-(k:Int)-1:=by omega
  have wk:=ww (x:=40-(k:Int)-1)
  have e41:41-(k+1)=40-k:=by omega
  generalize hX:a/2^(40-k) *rest/c=q' at*
  generalize hY:a/2^(40-k) *rest%c=l' at*
  generalize a/2^(41-k) *rest/c=q at*
  generalize a/2^(41-k) *rest%c=l at*
  obtain⟨hs1,hs2⟩:=hs
  have h2q:2*q≤q':=by rw[←hs1];exact Nat.le_add_right _ _
  have w2:=ww (x:=2*(q:Int))
  have w3:=ww (x:=2*(l:Int))
  refine gg rfl ?_
  rw[w2,w3,sh]
  refine q19 a (40-k) rfl rfl rfl rfl (by show 40-k≤64;omega) ?_
  generalize hBB:a/2^(40-k)=B at*
  have e3:((B:Nat):Int).tmod 2=((B%2:Nat):Int):=by rw[Int.tmod_eq_emod_of_nonneg (by omega)];rfl
  have fin:∀L:Nat,L=2*l+B%2*rest→((L:Int)).tdiv (c:Int)=((L/c:Nat):Int)∧((L:Int)).tmod (c:Int)=((l':Nat):Int)∧L/c≤L∧2*q+L/c=q':=by
   rintro L rfl
   refine⟨by rw[Int.tdiv_eq_ediv_of_nonneg (by omega)];rfl,?_,Nat.div_le_self _ _,hs1⟩
   rw[Int.tmod_eq_emod_of_nonneg (by omega),←hs2];rfl
  refine gg rfl (q37 rfl rfl (by decide) ?_)
  rw[e3]
  refine gg rfl (q01 rfl (fun f=>?_) (fun f=>?_))
  ·rw[q1n]at f
   have f:B%2=1:=by omega
   have hf:=fin (2*l+rest) (by rw[f];omega)
   have w4:IntKind.i64.wrap (2*(l:Int)+(rest:Int))=((2*l+rest:Nat):Int):=by rw[wrap64 (by omega) (by omega)];omega
   obtain⟨f1,f2,f3,f4⟩:=hf
   refine gg rfl ?_
   rw[w4]
   refine qem rfl rfl (by omega) ?_
   rw[f1]
   generalize (2*l+rest)/c=v at*
   have w5:=ww (x:=(v:Int))
   rw[w5]
   have w6:IntKind.i64.wrap (2*(q:Int)+(v:Int))=(q':Int):=by rw[wrap64 (by omega) (by omega)];omega
   refine gg rfl ?_
   rw[w6]
   refine q37 rfl rfl (by omega) ?_
   rw[f2]
   refine gg rfl (q04 (hN (k+1) (by omega) (by omega) (q03 rfl trivial ?_)))
   rw[e41,hBB,hX,hY,ek,wk]
  rw[q1Q]at f
  have f:B%2=0:=by omega
  have hf:=fin (2*l) (by rw[f];omega)
  obtain⟨f1,f2,f3,f4⟩:=hf
  have el:(2*(l:Int))=((2*l:Nat):Int):=by omega
  refine gg rfl ?_
  rw[el]
  refine qem rfl rfl (by omega) ?_
  rw[f1]
  generalize (2*l)/c=v at*
  have w5:=ww (x:=(v:Int))
  rw[w5]
  have w6:IntKind.i64.wrap (2*(q:Int)+(v:Int))=(q':Int):=by rw[wrap64 (by omega) (by omega)];omega
  refine gg rfl ?_
  rw[w6]
  refine q37 rfl rfl (by omega) ?_
  rw[f2]
  refine gg rfl (q04 (hN (k+1) (by omega) (by omega) (q03 rfl trivial ?_)))
  rw[e41,hBB,hX,hY,ek,wk]
 rw[q0F]at g
 obtain rfl:k=41:=by omega
 clear hN
 have e0:a/2^(41-41)=a:=by simp
 rw[e0]
 have hl:=Nat.mod_lt (a*rest) hc
 have hq:a*rest/c≤a:=Nat.div_le_of_le_mul (by rw[Nat.mul_comm];exact Nat.mul_le_mul_right _ (by omega))
 generalize a*rest/c=q at*
 generalize a*rest%c=l at*
 have w2:=ww (x:=2*(l:Int))
 refine gg rfl (q04 (gg rfl ?_))
 rw[w2]
 refine q01 rfl (fun f=>?_) (fun f=>?_)
 ·rw[q0E]at f
  rw[if_pos (by omega)]
  have w3:=ww (x:=(q:Int)+1)
  have w4:IntKind.i64.wrap (((a*wh:Nat):Int)+((q:Int)+1))=((a*wh+q+1:Nat):Int):=by rw[wrap64 (by omega) (by omega)];omega
  refine gg rfl ?_
  rw[w3,w4]
  exact q08 rfl rfl rfl trivial rfl
 rw[q0F]at f
 rw[if_neg (by omega)]
 have w4:IntKind.i64.wrap (((a*wh:Nat):Int)+(q:Int))=((a*wh+q+0:Nat):Int):=by rw[wrap64 (by omega) (by omega)];omega
 refine gg rfl ?_
 rw[w4]
 exact q08 rfl rfl rfl trivial rfl
theorem qpK (fr to:Int)(rev:Bool)(at_:Int):PU qqP [.int .i64 fr,.int .i64 to,.bool rev,.int .i64 at_]=some (.tup [.int .i64 (q3v fr to rev at_).1,.int .i64 (q3v fr to rev at_).2]):=by
 by_cases hb:q4y fr to at_
 ·rw[q3v,if_pos hb]
  unfold q4y at hb
  refine q0g (fn:=q9z) rfl (q0a ?_)
  repeat' (first
   |refine goP 800 rfl rfl ?_
   |refine q0h rfl ?_|refine q0n rfl ?_|refine q09 rfl (fun _=>?_) (fun _=>?_)
   |refine q0d rfl ?_|refine q0j rfl ?_|refine q01 rfl (fun _=>?_) (fun _=>?_)
   |refine q0N rfl (fun _=>?_) (fun _=>?_)
   |refine q08 rfl rfl rfl trivial ?_)
  all_goals first
   |rfl
   |(exfalso;simp only[q06,q07]at*;omega)
 rw[q3v,if_neg hb]
 unfold q4y at hb
 obtain⟨F,rfl⟩:∃n:Nat,fr=n:=⟨fr.toNat,by omega⟩
 obtain⟨T,rfl⟩:∃n:Nat,to=n:=⟨to.toNat,by omega⟩
 obtain⟨A,rfl⟩:∃n:Nat,at_=n:=⟨at_.toNat,by omega⟩
 have hs:=quA A T F (by omega) (by omega) (by omega) (by omega)
 have hr:=qmV (a:=A*T) (b:=F) (by omega)
 rw[Int.natCast_mul]at hr
 have hquo:A*T/F≤T:=Nat.div_le_of_le_mul (Nat.mul_le_mul_right _ (by omega))
 have hR:0≤q1u ((A:Int) *T) F∧q1u ((A:Int) *T) F≤T+1:=by
  rw[hr]
  generalize A*T/F=x at*
  split<;>omega
 generalize q1u ((A:Int) *T) F=R at*
 have w7:=ww (x:=(T:Int)-R)
 have no:∀{x y:Int} {P:Prop},¬x<y→ltb x y=true→P:=fun h g=>absurd (q06.1 g) h
 refine q0g (fn:=q9z) rfl (q0a ?_)
 refine gg rfl (q09 rfl (no (by omega)) (fun _=>?_))
 refine gg rfl (q09 rfl (no (by omega)) (fun _=>?_))
 refine gg rfl (q09 rfl (no (by omega)) (fun _=>?_))
 refine gg rfl (q09 rfl (no (by omega)) (fun _=>?_))
 refine gg rfl (q09 rfl (no (by omega)) (fun _=>?_))
 refine gg rfl (q01 rfl (no (by omega)) (fun _=>?_))
 refine gg rfl (q02 rfl rfl hs (gg rfl ?_))
 cases rev with
 |true=>
  refine q0d rfl (gg rfl ?_)
  rw[w7]
  exact q08 rfl rfl rfl trivial rfl
 |false=>
  exact q0j rfl (gg rfl (q08 rfl rfl rfl trivial rfl))
theorem qxs {l:List Edge}(h:q0J l=0){k:Nat}(hk:k<l.length):q1v (eg l k).line=0:=q2P (q1a (q11 h).2.2.1 hk)
set_option maxHeartbeats 4000000 in
theorem q9I (p:Piece)(m:Int)(hc:p.corners.length≤1000000):
 PU qtM [p.enc,.int .i64 m]=some (.tup [ints (q0S p m).1,.int .i64 (q0S p m).2]):=by
 refine q0g (fn:=qgP) rfl (q0a ?_)
 refine gg rfl (q02 rfl rfl (q3e p m hc) (gg rfl (q01 rfl (fun h=>?_) (fun h=>?_))))
 ·rw[q0u]at h
  refine gg rfl (q08 rfl rfl rfl trivial ?_)
  rw[q0S,if_pos h];rfl
 have h:(q0p p m).2=0:=q0z.1 h
 obtain⟨hg,hck1,hck2,_⟩:=q2b h
 have hr:q0S p m=if 16<p.notches.length then([],5)
  else if q2A p (q0p p m).1 p.notches≠0 then([],q2A p (q0p p m).1 p.notches)
  else(p.notches.map fun n=>(q1w p (q0p p m).1 n).1,0):=by rw[q0S,if_neg (by omega)]
 rw[hr]
 generalize (q0p p m).1=G at*
 refine gg rfl ?_
 rw[List.length_map]
 refine q01 rfl (fun h2=>?_) (fun h2=>?_)
 ·rw[q06]at h2
  refine gg rfl (q08 rfl rfl rfl trivial ?_)
  rw[if_pos (by omega)];rfl
 rw[q07]at h2
 rw[if_neg (by omega)]
 refine gg rfl (q0l (S:=fun k:Nat=>([.ptr 0 0 0,edges G,.ref 2 0 k,q00 k],[some (.row [p.enc] 7),none,some (.row (((p.notches.take k).map fun n=>(q1w p G n).1).map q00) 1),none],[0,0,0,0])) (C:=fun k=>k≤p.notches.length∧q2A p G p.notches=q2A p G (p.notches.drop k)) (m:=fun k=>p.notches.length-k) 0 ⟨Nat.zero_le _,rfl⟩ (by omega) ?_ ?_)
 ·exact q03 rfl ⟨rfl,rfl,trivial⟩ rfl
 rintro k ⟨hk,hke⟩ N hN
 refine gg rfl ?_
 rw[List.length_map]
 refine q01 rfl (fun e1=>?_) (fun e1=>?_)
 ·rw[q06]at e1
  have hlt:k<p.notches.length:=by omega
  have w1:=wS (n:=k)
  have hdr:p.notches.drop k=nt p.notches k::p.notches.drop (k+1):=by rw[List.drop_eq_getElem_cons hlt,qv5 hlt]
  have hst:(((p.notches.take (k+1)).map fun n=>(q1w p G n).1).map q00)=((p.notches.take k).map fun n=>(q1w p G n).1).map q00++[q00 (q1w p G (nt p.notches k)).1]:=by
   rw[List.take_succ_eq_append_getElem hlt,List.map_append,List.map_append,qv5 hlt];rfl
  have hne:=qv6 hlt
  rw[hdr,q2A]at hke
  generalize nt p.notches k=n at*
  have bad:(q1w p G n).2≠0→q2A p G p.notches=(q1w p G n).2:=fun h=>by rw[hke,if_neg h]
  refine gg rfl (q0i k rfl rfl rfl hne rfl (gg rfl (q09 rfl (fun f1=>?_) (fun f1=>?_))))
  ·rw[q06]at f1
   have hn:q1w p G n=(0,3):=by rw[q1w,if_pos (.inl f1)]
   rw[hn]at bad
   refine gg rfl (q0d rfl (gg rfl (q04 (gg rfl (q08 rfl rfl rfl trivial ?_)))))
   rw[bad (by decide)];rfl
  rw[q07]at f1
  refine gg rfl ?_
  rw[List.length_map]
  refine q01 rfl (fun f2=>?_) (fun f2=>?_)
  ·rw[q0E]at f2
   have hn:q1w p G n=(0,3):=by rw[q1w,if_pos (.inr f2)]
   rw[hn]at bad
   refine gg rfl (q04 (gg rfl (q08 rfl rfl rfl trivial ?_)))
   rw[bad (by decide)];rfl
  rw[q0F]at f2
  have ei:n.edge=((n.edge.toNat:Nat):Int):=by omega
  have hl1:n.edge.toNat<p.edges.length:=by omega
  have hl2:n.edge.toNat<G.length:=by omega
  have l1:=q9H (eg p.edges n.edge.toNat).line
  have l2:=q9H (eg G n.edge.toNat).line
  have hn0:q1w p G n=if(q17 (eg p.edges n.edge.toNat).line).2≠0 then(0,(q17 (eg p.edges n.edge.toNat).line).2)
   else if(q17 (eg G n.edge.toNat).line).2≠0 then(0,(q17 (eg G n.edge.toNat).line).2)
   else q3v (q17 (eg p.edges n.edge.toNat).line).1 (q17 (eg G n.edge.toNat).line).1 false n.at_:=by rw[q1w,if_neg (by omega)]
  have f3:(q17 (eg p.edges n.edge.toNat).line).2=0:=by rw[q17,if_pos (qxs hck1 hl1)]
  have f4:(q17 (eg G n.edge.toNat).line).2=0:=by rw[q17,if_pos (qxs hck2 hl2)]
  rw[if_neg (by simp[f3]),if_neg (by simp[f4])]at hn0
  refine gg rfl (q0i n.edge.toNat rfl rfl ei (q1K hl1) rfl (gg rfl (q02 rfl rfl l1 (gg rfl (q0i n.edge.toNat rfl rfl ei (q1K hl2) rfl (gg rfl (q02 rfl rfl l2 (gg rfl (q02 rfl rfl (qpK (q17 (eg p.edges n.edge.toNat).line).1 (q17 (eg G n.edge.toNat).line).1 false n.at_) ?_)))))))))
  rw[←hn0]
  refine gg rfl (q01 rfl (fun f5=>?_) (fun f5=>?_))
  ·rw[q0u]at f5
   refine gg rfl (q04 (gg rfl (q08 rfl rfl rfl trivial ?_)))
   rw[bad f5,if_pos f5];rfl
  rw[q0z]at f5
  rw[if_pos f5]at hke
  refine gg rfl (q1b rfl rfl rfl rfl rfl rfl (by simp;omega) (Nat.zero_le _) (by simp[q0M];omega) ?_)
  refine gg rfl (q04 (hN (k+1) ⟨hlt,hke⟩ (by omega) (q03 rfl ⟨rfl,?_,trivial⟩ ?_)))
  ·rw[List.all_append,q05 q5y];rfl
  rw[hst,w1];rfl
 rw[q07]at e1
 obtain rfl:k=p.notches.length:=by omega
 have hz:q2A p G p.notches=0:=by rw[hke,List.drop_length];rfl
 rw[hz,List.take_length]
 refine gg rfl (q04 (gg rfl (q08 rfl rfl rfl ⟨q2s (by simp) (q0W qeE _),trivial⟩ ?_)))
 rw[q2t (by simp)];rfl
end Go.F

namespace Go.F
attribute [local irreducible] IntKind.wrap wpM
set_option maxHeartbeats 2000000 in
theorem qxt (s:ByteArray):PU qz3 [.str s]=some (.bool (sizeS s)):=by
 refine q0g (fn:=qnn) rfl (q0a ?_)
 refine gg rfl (q09 rfl (fun h0=>?_) (fun h0=>?_))
 ·repeat' (first
   |refine goP 800 rfl rfl ?_
   |refine q0h rfl ?_|refine q0n rfl ?_|refine q09 rfl (fun _=>?_) (fun _=>?_)
   |refine q0d rfl ?_|refine q0j rfl ?_|refine q01 rfl (fun _=>?_) (fun _=>?_)
   |refine q0N rfl (fun _=>?_) (fun _=>?_)
   |refine q08 rfl rfl rfl trivial ?_)
  rw[qbe,qi2,decide_eq_true_eq]at h0
  simp[sizeS,h0]
 refine gg rfl ?_
 rw[qbe,qi2,decide_eq_false_iff_not]at h0
 refine q01 rfl (fun h1=>?_) (fun h1=>?_)
 ·refine gg rfl (q08 rfl rfl rfl trivial ?_)
  rw[q06]at h1
  have:¬s.size≤8:=by omega
  simp[sizeS,this]
 rw[q07]at h1
 refine gg rfl (q0l (S:=fun k:Nat=>([.str s,q00 k],[none,none],[0,0])) (C:=fun k=>k≤s.size∧∀i,i<k→q2S (q2u s i).toNat=true) (m:=fun k=>s.size-k) 0 ⟨by omega,fun i hi=>by omega⟩ (by omega) ?_ ?_)
 ·exact q03 rfl trivial (by simp[q00])
 intro k ⟨hk,hall⟩ N hN
 refine gg rfl (q01 rfl (fun g1=>?_) (fun g1=>?_))
 ·rw[q06]at g1
  have hlt:k<s.size:=by omega
  have w1:=wS (n:=k)
  have hb:=q6j hlt
  have hno:=qy1 hlt
  have hyes:q2S (q2u s k).toNat=true→∀i,i<k+1→q2S (q2u s i).toNat=true:=by
   intro h i hi
   by_cases e:i=k
   ·subst e;exact h
   exact hall i (by omega)
  generalize q2u s k=c at*
  refine gg rfl (q2f k rfl rfl rfl hb (gg rfl (q09 rfl (fun a1=>?_) (fun a1=>?_))))
  ·refine gg rfl (q2f k rfl rfl rfl hb (gg rfl (q09 rfl (fun a2=>?_) (fun a2=>?_))))
   ·have hc:q2S c.toNat=true:=by rw[q1y];simp_all
    exact gg rfl (q0j rfl (gg rfl (q04 (hN (k+1) ⟨hlt,hyes hc⟩ (by omega) (q03 rfl trivial (by simp[q00,w1]))))))
   refine gg rfl (q2f k rfl rfl rfl hb (gg rfl (q09 rfl (fun d1=>?_) (fun d1=>?_))))
   ·refine gg rfl (q2f k rfl rfl rfl hb (gg rfl (q01 rfl (fun d2=>?_) (fun d2=>?_))))
    ·have hc:q2S c.toNat=false:=by rw[q1y];simp_all
     refine gg rfl (q04 (gg rfl (q08 rfl rfl rfl trivial ?_)))
     rw[hno hc]
    have hc:q2S c.toNat=true:=by rw[q1y];simp_all
    exact gg rfl (q04 (hN (k+1) ⟨hlt,hyes hc⟩ (by omega) (q03 rfl trivial (by simp[q00,w1]))))
   have hc:q2S c.toNat=false:=by rw[q1y];simp_all
   refine gg rfl (q0d rfl (gg rfl (q04 (gg rfl (q08 rfl rfl rfl trivial ?_)))))
   rw[hno hc]
  refine gg rfl (q0n rfl (gg rfl (q2f k rfl rfl rfl hb (gg rfl (q09 rfl (fun d1=>?_) (fun d1=>?_))))))
  ·refine gg rfl (q2f k rfl rfl rfl hb (gg rfl (q01 rfl (fun d2=>?_) (fun d2=>?_))))
   ·have hc:q2S c.toNat=false:=by rw[q1y];simp_all
    refine gg rfl (q04 (gg rfl (q08 rfl rfl rfl trivial ?_)))
    rw[hno hc]
   have hc:q2S c.toNat=true:=by rw[q1y];simp_all
   exact gg rfl (q04 (hN (k+1) ⟨hlt,hyes hc⟩ (by omega) (q03 rfl trivial (by simp[q00,w1]))))
  have hc:q2S c.toNat=false:=by rw[q1y];simp_all
  refine gg rfl (q0d rfl (gg rfl (q04 (gg rfl (q08 rfl rfl rfl trivial ?_)))))
  rw[hno hc]
 rw[q07]at g1
 obtain rfl:k=s.size:=by omega
 refine gg rfl (q04 (gg rfl (q08 rfl rfl rfl trivial ?_)))
 rw[sizeS,decide_eq_true hall,decide_eq_true (show 1≤s.size by omega),decide_eq_true (show s.size≤8 by omega)];rfl
def sizedB (s:Sty):Bool:=decide (q1M s.name=true∧s.sizes.length≠0∧s.sizes.any (fun x=>!sizeS x)=false∧0∈s.mults∧s.mults.length=s.sizes.length)
set_option maxHeartbeats 4000000 in
theorem quB (s:Sty)(hB:StyB s):PU qwh [s.enc]=some (.bool (sizedB s)):=by
 have b1:=hB.sizes
 have b2:=hB.mults
 refine q0g (fn:=qkZ) rfl (q0a ?_)
 refine gg rfl (q02 rfl rfl (qdQ s.name) ?_)
 cases hn:q1M s.name with
 |false=>
  refine gg rfl (q0h rfl (gg rfl (q0d rfl (gg rfl (q08 rfl rfl rfl trivial ?_)))))
  simp[sizedB,hn]
 |true=>
  refine gg rfl (q0n rfl (gg rfl ?_))
  rw[List.length_map]
  refine q01 rfl (fun g=>?_) (fun g=>?_)
  ·rw[q1n]at g
   refine gg rfl (q08 rfl rfl rfl trivial ?_)
   have:s.sizes.length=0:=by omega
   rw[sizedB,decide_eq_false (fun h=>h.2.1 this)]
  rw[q1Q]at g
  refine gg rfl (q0l (S:=fun k:Nat=>([.ptr 0 0 0,q00 k],[some (.row [s.enc] 7),none],[0,0])) (C:=fun k=>k≤s.sizes.length∧∀j (hj:j<s.sizes.length),j<k→sizeS s.sizes[j]=true) (m:=fun k=>s.sizes.length-k) 0 ⟨Nat.zero_le _,fun j _ h=>by omega⟩ (by omega) ?_ ?_)
  ·exact q03 rfl ⟨rfl,trivial⟩ rfl
  rintro k ⟨hk,hall⟩ N hN
  refine gg rfl ?_
  rw[List.length_map]
  refine q01 rfl (fun e=>?_) (fun e=>?_)
  ·rw[q06]at e
   have hlt:k<s.sizes.length:=by omega
   have w1:=wS (n:=k)
   have hz:=qxt s.sizes[k]
   refine gg rfl (q0i k rfl rfl rfl (q1A hlt) rfl (gg rfl (q02 rfl rfl hz ?_)))
   cases hv:sizeS s.sizes[k]with
   |false=>
    refine gg rfl (q0d rfl (gg rfl (q04 (gg rfl (q08 rfl rfl rfl trivial ?_)))))
    have ha:s.sizes.any (fun x=>!sizeS x)=true:=q29 hlt (by rw[hv];rfl)
    rw[sizedB,decide_eq_false (fun h=>by rw[ha]at h;cases h.2.2.1)]
   |true=>
    refine gg rfl (q0j rfl (gg rfl (q04 (hN (k+1) ⟨hlt,fun j hj hjk=>?_⟩ (by omega) (q03 rfl ⟨rfl,trivial⟩ (by rw[w1];rfl))))))
    by_cases ej:j=k
    ·subst ej;exact hv
    exact hall j hj (by omega)
  rw[q07]at e
  obtain rfl:k=s.sizes.length:=by omega
  clear hN
  have hc2:s.sizes.any (fun x=>!sizeS x)=false:=q1Z fun j hj=>by rw[hall j hj hj];rfl
  refine gg rfl (q04 (gg rfl (q0l (S:=fun k:Nat=>([.ptr 0 0 0,.bool (decide (0∈s.mults.take k)),q00 k],[some (.row [s.enc] 7),none,none],[0,0,0])) (C:=fun k=>k≤s.mults.length) (m:=fun k=>s.mults.length-k) 0 (Nat.zero_le _) (by omega) ?_ ?_)))
  ·exact q03 rfl ⟨rfl,trivial⟩ (by simp[q00])
  intro k hk N hN
  refine gg rfl ?_
  rw[List.length_map]
  refine q01 rfl (fun e=>?_) (fun e=>?_)
  ·rw[q06]at e
   have hlt:k<s.mults.length:=by omega
   have w1:=wS (n:=k)
   have hst:(0∈s.mults.take (k+1))↔(0∈s.mults.take k∨mu s.mults k=0):=by
    rw[List.take_succ_eq_append_getElem hlt,List.mem_append,List.mem_singleton,qjO hlt]
    exact⟨fun h=>h.imp id Eq.symm,fun h=>h.imp id Eq.symm⟩
   cases hb:decide (0∈s.mults.take k)with
   |true=>
    have hb:=of_decide_eq_true hb
    refine gg rfl (q0h rfl (gg rfl (q04 (hN (k+1) hlt (by omega) (q03 rfl ⟨rfl,trivial⟩ ?_)))))
    rw[w1,decide_eq_true (hst.2 (.inl hb))];rfl
   |false=>
    have hb:=of_decide_eq_false hb
    refine gg rfl (q0n rfl (gg rfl (q0i k rfl rfl rfl (q7f hlt) rfl (gg rfl (q04 (hN (k+1) hlt (by omega) (q03 rfl ⟨rfl,trivial⟩ ?_)))))))
    have e2:decide (0∈s.mults.take (k+1))=eqb (mu s.mults k) 0:=by
     rw[q2e]
     exact decide_eq_decide.2 ⟨fun h=>(hst.1 h).resolve_left hb,fun h=>hst.2 (.inr h)⟩
    rw[w1,e2];rfl
  rw[q07]at e
  obtain rfl:k=s.mults.length:=by omega
  clear hN
  rw[List.take_length]
  refine gg rfl (q04 (gg rfl ?_))
  cases hz:decide (0∈s.mults)with
  |false=>
   have hz:=of_decide_eq_false hz
   refine q0n rfl (gg rfl (q08 rfl rfl rfl trivial ?_))
   rw[sizedB,decide_eq_false (fun h=>hz h.2.2.2.1)]
  |true=>
   have hz:=of_decide_eq_true hz
   refine q0h rfl (gg rfl (q08 rfl rfl rfl trivial ?_))
   rw[List.length_map,List.length_map,q2e,sizedB]
   congr 1
   refine decide_eq_decide.2 ⟨fun h=>⟨hn,by omega,hc2,hz,by omega⟩,fun h=>?_⟩
   have:=h.2.2.2.2
   omega
set_option maxHeartbeats 4000000 in
theorem quC (l:List ByteArray)(hl:l.length≤1000):PU qwi [strs l]=some (.bool (q4P l)):=by
 refine q0g (fn:=ql1) rfl (q0a ?_)
 refine gg rfl (q0l (S:=fun k:Nat=>([strs l,q00 k],[none,none],[0,0])) (C:=fun k=>k≤l.length∧∀i,i<k→((l.take i).any fun x=>x.toList==(sz l i).toList)=false) (m:=fun k=>l.length-k) 0 ⟨Nat.zero_le _,fun j h=>by omega⟩ (by omega) ?_ ?_)
 ·exact q03 rfl trivial rfl
 rintro k ⟨hk,htw⟩ N hN
 refine gg rfl ?_
 rw[List.length_map]
 refine q01 rfl (fun e=>?_) (fun e=>?_)
 ·rw[q06]at e
  have hlt:k<l.length:=by omega
  have w1:=wS (n:=k)
  refine gg rfl (q0l (S:=fun j:Nat=>([strs l,q00 k,q00 j],[none,none,none],[0,0,0])) (C:=fun j=>j≤k∧∀i (hi:i<l.length),i<j→(l[i].toList==(sz l k).toList)=false) (m:=fun j=>k-j) 0 ⟨Nat.zero_le _,fun j _ h=>by omega⟩ (by omega) ?_ ?_)
  ·exact q03 rfl trivial rfl
  rintro j ⟨hj,hno⟩ N2 hN2
  refine gg rfl (q01 rfl (fun f=>?_) (fun f=>?_))
  ·rw[q06]at f
   have hjk:j<k:=by omega
   have w2:=wS (n:=j)
   refine gg rfl (q0i k rfl rfl rfl (qAh hlt) rfl (gg rfl (q0i j rfl rfl rfl (qAh (by omega)) rfl ?_)))
   refine gg rfl (q01 rfl (fun g=>?_) (fun g=>?_))
   ·refine gg rfl (q04 (gg rfl (q04 (gg rfl (q08 rfl rfl rfl trivial ?_)))))
    have ht:q4P l=true:=by
     unfold q4P
     rw[List.any_eq_true]
     refine⟨k,List.mem_range.2 hlt,?_⟩
     rw[List.any_eq_true]
     refine⟨sz l j,?_,?_⟩
     ·rw[qAg (by omega)]
      have h1:(l.take k)[j]'(by rw[List.length_take];omega)=l[j]:=by simp
      rw[←h1]
      exact List.getElem_mem _
     have g:((sz l k).toList==(sz l j).toList)=true:=g
     rw[beq_iff_eq]at g⊢
     exact g.symm
    rw[ht]
   refine gg rfl (q04 (hN2 (j+1) ⟨hjk,fun i hi hij=>?_⟩ (by omega) (q03 rfl trivial (by rw[w2];rfl))))
   by_cases ei:i=j
   ·subst ei
    have g:((sz l k).toList==(sz l i).toList)=false:=g
    rw[beq_eq_false_iff_ne]at g⊢
    rw[←qAg hi]
    exact fun h=>g h.symm
   exact hno i hi (by omega)
  rw[q07]at f
  obtain rfl:j=k:=by omega
  clear hN2
  refine gg rfl (q04 (gg rfl (q04 (hN (j+1) ⟨hlt,fun i hi=>?_⟩ (by omega) (q03 rfl trivial (by rw[w1];rfl))))))
  by_cases ei:i=j
  ·subst ei
   refine q1Z fun a ha=>?_
   rw[List.length_take]at ha
   have h1:(l.take i)[a]'(by rw[List.length_take];omega)=l[a]:=by simp
   rw[h1]
   exact hno a (by omega) (by omega)
  exact htw i (by omega)
 rw[q07]at e
 obtain rfl:k=l.length:=by omega
 clear hN
 refine gg rfl (q04 (gg rfl (q08 rfl rfl rfl trivial ?_)))
 have ht:q4P l=false:=by
  unfold q4P
  rw[List.any_eq_false]
  intro i hi h
  rw[htw i (List.mem_range.1 hi)]at h;cases h
 rw[ht]
def qiv (s:Sty):Bool:=decide (12<s.sizes.length∨12<s.pieces.length∨24<s.seams.length∨16<s.ops.length∨12<s.uses.length)
theorem qxu (s:Sty):PU qz0 [s.enc]=some (.bool (qiv s)):=by
 refine q0g (fn:=qnj) rfl (q0a ?_)
 refine gg rfl ?_
 rw[List.length_map]
 refine q09 rfl (fun e1=>?_) (fun e1=>?_)
 ·rw[q06]at e1
  repeat' (first
   |refine goP 800 rfl rfl ?_
   |refine q0h rfl ?_|refine q0n rfl ?_|refine q09 rfl (fun _=>?_) (fun _=>?_)
   |refine q0d rfl ?_|refine q0j rfl ?_|refine q01 rfl (fun _=>?_) (fun _=>?_)
   |refine q0N rfl (fun _=>?_) (fun _=>?_)
   |refine q08 rfl rfl rfl trivial ?_)
  rw[qiv,decide_eq_true (.inl (by omega))]
 rw[q07]at e1
 refine gg rfl ?_
 rw[List.length_map]
 refine q09 rfl (fun e2=>?_) (fun e2=>?_)
 ·rw[q06]at e2
  repeat' (first
   |refine goP 800 rfl rfl ?_
   |refine q0h rfl ?_|refine q0n rfl ?_|refine q09 rfl (fun _=>?_) (fun _=>?_)
   |refine q0d rfl ?_|refine q0j rfl ?_|refine q01 rfl (fun _=>?_) (fun _=>?_)
   |refine q0N rfl (fun _=>?_) (fun _=>?_)
   |refine q08 rfl rfl rfl trivial ?_)
  rw[qiv,decide_eq_true (.inr (.inl (by omega)))]
 rw[q07]at e2
 refine gg rfl ?_
 rw[List.length_map]
 refine q09 rfl (fun e3=>?_) (fun e3=>?_)
 ·rw[q06]at e3
  repeat' (first
   |refine goP 800 rfl rfl ?_
   |refine q0h rfl ?_|refine q0n rfl ?_|refine q09 rfl (fun _=>?_) (fun _=>?_)
   |refine q0d rfl ?_|refine q0j rfl ?_|refine q01 rfl (fun _=>?_) (fun _=>?_)
   |refine q0N rfl (fun _=>?_) (fun _=>?_)
   |refine q08 rfl rfl rfl trivial ?_)
  rw[qiv,decide_eq_true (.inr (.inr (.inl (by omega))))]
 rw[q07]at e3
 refine gg rfl ?_
 rw[List.length_map]
 refine q09 rfl (fun e4=>?_) (fun e4=>?_)
 ·rw[q06]at e4
  repeat' (first
   |refine goP 800 rfl rfl ?_
   |refine q0h rfl ?_|refine q0n rfl ?_|refine q09 rfl (fun _=>?_) (fun _=>?_)
   |refine q0d rfl ?_|refine q0j rfl ?_|refine q01 rfl (fun _=>?_) (fun _=>?_)
   |refine q0N rfl (fun _=>?_) (fun _=>?_)
   |refine q08 rfl rfl rfl trivial ?_)
  rw[qiv,decide_eq_true (.inr (.inr (.inr (.inl (by omega)))))]
 rw[q07]at e4
 refine gg rfl (q08 rfl rfl rfl trivial ?_)
 rw[List.length_map,q1J,qiv]
 congr 1
 exact decide_eq_decide.2 ⟨fun h=>by omega,fun h=>by omega⟩
theorem qfY (s:Sty)(p e:Int):PU qtO [s.enc,.int .i64 p,.int .i64 e]=some (.bool (q1P s p e)):=by
 refine q0g (fn:=qgR) rfl (q0a ?_)
 refine gg rfl (q09 rfl (fun g1=>?_) (fun g1=>?_))
 ·rw[q0E]at g1
  refine gg rfl ?_
  rw[List.length_map]
  refine q09 rfl (fun g2=>?_) (fun g2=>?_)
  ·rw[q06]at g2
   refine gg rfl (q09 rfl (fun g3=>?_) (fun g3=>?_))
   ·rw[q0E]at g3
    refine gg rfl (q0i p.toNat rfl rfl (by omega) (q4q (by omega)) rfl ?_)
    refine gg rfl (q08 rfl rfl rfl trivial ?_)
    rw[q1P,decide_eq_true g1,decide_eq_true g2,decide_eq_true g3,q1J,List.length_map];rfl
   rw[q0F]at g3
   refine gg rfl (q08 rfl rfl rfl trivial ?_)
   rw[q1P,decide_eq_false (show¬0≤e by omega)];simp
  rw[q07]at g2
  refine gg rfl (q0n rfl (gg rfl (q08 rfl rfl rfl trivial ?_)))
  rw[q1P,decide_eq_false (show¬p<s.pieces.length by omega)];simp
 rw[q0F]at g1
 refine gg rfl (q0n rfl (gg rfl (q0n rfl (gg rfl (q08 rfl rfl rfl trivial ?_)))))
 rw[q1P,decide_eq_false (show¬0≤p by omega)];rfl
def qDb (p:Piece):Int:=if p.widths.length≠p.edges.length then 1 else if p.widths.any q2j then 3 else 0
end Go.F

namespace Go.F
attribute [local irreducible] IntKind.wrap wpM
theorem q9J (p:Piece)(h2:p.widths.length≤1000):PU qtN [p.enc]=some (.int .i64 (qDb p)):=by
 refine q0g (fn:=qhj) rfl (q0a ?_)
 refine gg rfl ?_
 rw[List.length_map,List.length_map]
 refine q01 rfl (fun f3=>?_) (fun f3=>?_)
 ·rw[q0u]at f3
  refine gg rfl (q08 rfl rfl rfl trivial ?_)
  rw[qDb,if_pos (by omega)]
 rw[q0z]at f3
 rw[qDb,if_neg (by omega)]
 refine gg rfl (q0l (S:=fun k:Nat=>([.ptr 0 0 0,q00 k],[some (.row [p.enc] 7),none],[0,0])) (C:=fun k=>k≤p.widths.length∧∀j (hj:j<p.widths.length),j<k→q2j p.widths[j]=false) (m:=fun k=>p.widths.length-k) 0 ⟨Nat.zero_le _,fun j _ h=>by omega⟩ (by omega) ?_ ?_)
 ·exact q03 rfl ⟨rfl,trivial⟩ rfl
 rintro k ⟨hk,hm⟩ N hN
 refine gg rfl ?_
 rw[List.length_map]
 refine q01 rfl (fun e=>?_) (fun e=>?_)
 ·rw[q06]at e
  have hlt:k<p.widths.length:=by omega
  have w1:=wS (n:=k)
  have bad:q2j p.widths[k]=true→p.widths.any q2j=true:=fun h=>q29 hlt h
  have hx:(p.widths.map q00)[k]?=some (.int .i64 p.widths[k]):=q1A hlt
  refine gg rfl (q0i k rfl rfl rfl hx rfl (gg rfl (q09 rfl (fun f1=>?_) (fun f1=>?_))))
  ·rw[q06]at f1
   refine gg rfl (q0d rfl (gg rfl (q04 (gg rfl (q08 rfl rfl rfl trivial ?_)))))
   rw[if_pos (bad (by simp[q2j];omega))]
  rw[q07]at f1
  refine gg rfl (q0i k rfl rfl rfl hx rfl (gg rfl (q01 rfl (fun f2=>?_) (fun f2=>?_))))
  ·rw[q06]at f2
   refine gg rfl (q04 (gg rfl (q08 rfl rfl rfl trivial ?_)))
   rw[if_pos (bad (by simp[q2j];omega))]
  rw[q07]at f2
  refine gg rfl (q04 (hN (k+1) ⟨hlt,fun j hj hjk=>?_⟩ (by omega) (q03 rfl ⟨rfl,trivial⟩ (by rw[w1];rfl))))
  by_cases ej:j=k
  ·subst ej;simp[q2j];omega
  exact hm j hj (by omega)
 rw[q07]at e
 obtain rfl:k=p.widths.length:=by omega
 clear hN
 refine gg rfl (q04 (gg rfl (q08 rfl rfl rfl trivial ?_)))
 rw[if_neg (by rw[q1Z fun j hj=>hm j hj hj];decide)]
set_option maxHeartbeats 8000000 in
theorem quD (b:List Piece)(p:Piece)(hb:b.length≤1000)(h1:p.corners.length≤1000)(h2:p.widths.length≤1000):PU qwj [Go.F.pieces b,p.enc]=some (.int .i64 (q24 b p)):=by
 refine q0g (fn:=qkj) rfl (q0a ?_)
 refine gg rfl (q02 rfl rfl (qdQ p.name) ?_)
 cases hn:q1M p.name with
 |false=>
  refine gg rfl (q0h rfl (gg rfl (q0d rfl (gg rfl (q08 rfl rfl rfl trivial ?_)))))
  rw[q24,if_pos hn]
 |true=>
  have hc1:¬q1M p.name=false:=by rw[hn];decide
  refine gg rfl (q0n rfl (gg rfl (q09 rfl (fun g1=>?_) (fun g1=>?_))))
  ·rw[q0u]at g1
   refine gg rfl (q09 rfl (fun g2=>?_) (fun g2=>?_))
   ·rw[q0u]at g2
    refine gg rfl (q01 rfl (fun g3=>?_) (fun g3=>?_))
    ·rw[q0u]at g3
     refine gg rfl (q08 rfl rfl rfl trivial ?_)
     rw[q24,if_neg hc1,if_pos ⟨g1,g2,g3⟩]
    rw[q0z]at g3
    have hc2:¬(p.grain≠1∧p.grain≠2∧p.grain≠4):=fun h=>h.2.2 g3
    refine gg rfl (q0l (S:=fun k:Nat=>([Go.F.pieces b,.ptr 1 0 0,q00 k],[none,some (.row [p.enc] 7),none],[0,0,0])) (C:=fun k=>k≤b.length∧∀j (hj:j<b.length),j<k→(b[j].name.toList==p.name.toList)=false) (m:=fun k=>b.length-k) 0 ⟨Nat.zero_le _,fun j _ h=>by omega⟩ (by omega) ?_ ?_)
    ·exact q03 rfl ⟨rfl,trivial⟩ rfl
    rintro k ⟨hk,hno⟩ N hN
    refine gg rfl ?_
    rw[List.length_map]
    refine q01 rfl (fun e=>?_) (fun e=>?_)
    ·rw[q06]at e
     have hlt:k<b.length:=by omega
     have w1:=wS (n:=k)
     have hx:(b.map Piece.enc)[k]?=some b[k].enc:=q1A hlt
     refine gg rfl (q0i k rfl rfl rfl hx rfl (gg rfl (q01 rfl (fun f=>?_) (fun f=>?_))))
     ·refine gg rfl (q04 (gg rfl (q08 rfl rfl rfl trivial ?_)))
      rw[q24,if_neg hc1,if_neg hc2,if_pos (q29 hlt f)]
     refine gg rfl (q04 (hN (k+1) ⟨hlt,fun j hj hjk=>?_⟩ (by omega) (q03 rfl ⟨rfl,trivial⟩ (by rw[w1];rfl))))
     by_cases ej:j=k
     ·subst ej;exact f
     exact hno j hj (by omega)
    rw[q07]at e
    obtain rfl:k=b.length:=by omega
    clear hN
    have hc3:¬(b.any fun o=>o.name.toList==p.name.toList)=true:=by rw[q1Z fun j hj=>hno j hj hj];decide
    have hw:q24 b p=if(q0p p 0).2≠0 then(q0p p 0).2
     else if(q0S p 0).2≠0 then(q0S p 0).2
     else qDb p:=by rw[q24,if_neg hc1,if_neg hc2,if_neg hc3];rfl
    rw[hw]
    refine gg rfl (q04 (gg rfl (q02 rfl rfl (q3e p 0 (by omega)) ?_)))
    refine gg rfl (q01 rfl (fun f=>?_) (fun f=>?_))
    ·rw[q0u]at f
     refine gg rfl (q08 rfl rfl rfl trivial ?_)
     rw[if_pos f]
    rw[q0z]at f
    rw[if_neg (by simp[f])]
    refine gg rfl (q02 rfl rfl (q9I p 0 (by omega)) ?_)
    refine gg rfl (q01 rfl (fun f2=>?_) (fun f2=>?_))
    ·rw[q0u]at f2
     refine gg rfl (q08 rfl rfl rfl trivial ?_)
     rw[if_pos f2]
    rw[q0z]at f2
    rw[if_neg (by simp[f2])]
    exact gg rfl (q02 rfl rfl (q9J p h2) (gg rfl (q08 rfl rfl rfl trivial rfl)))
   rw[q0z]at g2
   have hc2:¬(p.grain≠1∧p.grain≠2∧p.grain≠4):=fun h=>h.2.1 g2
   refine gg rfl (q0j rfl (gg rfl (q0l (S:=fun k:Nat=>([Go.F.pieces b,.ptr 1 0 0,q00 k],[none,some (.row [p.enc] 7),none],[0,0,0])) (C:=fun k=>k≤b.length∧∀j (hj:j<b.length),j<k→(b[j].name.toList==p.name.toList)=false) (m:=fun k=>b.length-k) 0 ⟨Nat.zero_le _,fun j _ h=>by omega⟩ (by omega) ?_ ?_)))
   ·exact q03 rfl ⟨rfl,trivial⟩ rfl
   rintro k ⟨hk,hno⟩ N hN
   refine gg rfl ?_
   rw[List.length_map]
   refine q01 rfl (fun e=>?_) (fun e=>?_)
   ·rw[q06]at e
    have hlt:k<b.length:=by omega
    have w1:=wS (n:=k)
    have hx:(b.map Piece.enc)[k]?=some b[k].enc:=q1A hlt
    refine gg rfl (q0i k rfl rfl rfl hx rfl (gg rfl (q01 rfl (fun f=>?_) (fun f=>?_))))
    ·refine gg rfl (q04 (gg rfl (q08 rfl rfl rfl trivial ?_)))
     rw[q24,if_neg hc1,if_neg hc2,if_pos (q29 hlt f)]
    refine gg rfl (q04 (hN (k+1) ⟨hlt,fun j hj hjk=>?_⟩ (by omega) (q03 rfl ⟨rfl,trivial⟩ (by rw[w1];rfl))))
    by_cases ej:j=k
    ·subst ej;exact f
    exact hno j hj (by omega)
   rw[q07]at e
   obtain rfl:k=b.length:=by omega
   clear hN
   have hc3:¬(b.any fun o=>o.name.toList==p.name.toList)=true:=by rw[q1Z fun j hj=>hno j hj hj];decide
   have hw:q24 b p=if(q0p p 0).2≠0 then(q0p p 0).2
    else if(q0S p 0).2≠0 then(q0S p 0).2
    else qDb p:=by rw[q24,if_neg hc1,if_neg hc2,if_neg hc3];rfl
   rw[hw]
   refine gg rfl (q04 (gg rfl (q02 rfl rfl (q3e p 0 (by omega)) ?_)))
   refine gg rfl (q01 rfl (fun f=>?_) (fun f=>?_))
   ·rw[q0u]at f
    refine gg rfl (q08 rfl rfl rfl trivial ?_)
    rw[if_pos f]
   rw[q0z]at f
   rw[if_neg (by simp[f])]
   refine gg rfl (q02 rfl rfl (q9I p 0 (by omega)) ?_)
   refine gg rfl (q01 rfl (fun f2=>?_) (fun f2=>?_))
   ·rw[q0u]at f2
    refine gg rfl (q08 rfl rfl rfl trivial ?_)
    rw[if_pos f2]
   rw[q0z]at f2
   rw[if_neg (by simp[f2])]
   exact gg rfl (q02 rfl rfl (q9J p h2) (gg rfl (q08 rfl rfl rfl trivial rfl)))
  rw[q0z]at g1
  have hc2:¬(p.grain≠1∧p.grain≠2∧p.grain≠4):=fun h=>h.1 g1
  refine gg rfl (q0n rfl (gg rfl (q0j rfl (gg rfl (q0l (S:=fun k:Nat=>([Go.F.pieces b,.ptr 1 0 0,q00 k],[none,some (.row [p.enc] 7),none],[0,0,0])) (C:=fun k=>k≤b.length∧∀j (hj:j<b.length),j<k→(b[j].name.toList==p.name.toList)=false) (m:=fun k=>b.length-k) 0 ⟨Nat.zero_le _,fun j _ h=>by omega⟩ (by omega) ?_ ?_)))))
  ·exact q03 rfl ⟨rfl,trivial⟩ rfl
  rintro k ⟨hk,hno⟩ N hN
  refine gg rfl ?_
  rw[List.length_map]
  refine q01 rfl (fun e=>?_) (fun e=>?_)
  ·rw[q06]at e
   have hlt:k<b.length:=by omega
   have w1:=wS (n:=k)
   have hx:(b.map Piece.enc)[k]?=some b[k].enc:=q1A hlt
   refine gg rfl (q0i k rfl rfl rfl hx rfl (gg rfl (q01 rfl (fun f=>?_) (fun f=>?_))))
   ·refine gg rfl (q04 (gg rfl (q08 rfl rfl rfl trivial ?_)))
    rw[q24,if_neg hc1,if_neg hc2,if_pos (q29 hlt f)]
   refine gg rfl (q04 (hN (k+1) ⟨hlt,fun j hj hjk=>?_⟩ (by omega) (q03 rfl ⟨rfl,trivial⟩ (by rw[w1];rfl))))
   by_cases ej:j=k
   ·subst ej;exact f
   exact hno j hj (by omega)
  rw[q07]at e
  obtain rfl:k=b.length:=by omega
  clear hN
  have hc3:¬(b.any fun o=>o.name.toList==p.name.toList)=true:=by rw[q1Z fun j hj=>hno j hj hj];decide
  have hw:q24 b p=if(q0p p 0).2≠0 then(q0p p 0).2
   else if(q0S p 0).2≠0 then(q0S p 0).2
   else qDb p:=by rw[q24,if_neg hc1,if_neg hc2,if_neg hc3];rfl
  rw[hw]
  refine gg rfl (q04 (gg rfl (q02 rfl rfl (q3e p 0 (by omega)) ?_)))
  refine gg rfl (q01 rfl (fun f=>?_) (fun f=>?_))
  ·rw[q0u]at f
   refine gg rfl (q08 rfl rfl rfl trivial ?_)
   rw[if_pos f]
  rw[q0z]at f
  rw[if_neg (by simp[f])]
  refine gg rfl (q02 rfl rfl (q9I p 0 (by omega)) ?_)
  refine gg rfl (q01 rfl (fun f2=>?_) (fun f2=>?_))
  ·rw[q0u]at f2
   refine gg rfl (q08 rfl rfl rfl trivial ?_)
   rw[if_pos f2]
  rw[q0z]at f2
  rw[if_neg (by simp[f2])]
  exact gg rfl (q02 rfl rfl (q9J p h2) (gg rfl (q08 rfl rfl rfl trivial rfl)))
def quE (s:Sty):Int:=if s.uses.any (q1Y s.pieces.length)then 3 else q0G (q43 s) s.seams.length
set_option maxHeartbeats 8000000 in
theorem qrj (s:Sty)(hB:StyB s):PU qtG [s.enc]=some (.int .i64 (quE s)):=by
 have b1:=hB.pieces
 have b2:=hB.uses
 have b3:=hB.seams
 unfold quE
 refine q0g (fn:=qhd) rfl (q0a ?_)
 refine gg rfl (q0l (S:=fun k:Nat=>([.ptr 0 0 0,q00 k],[some (.row [s.enc] 7),none],[0,0])) (C:=fun k=>k≤s.uses.length∧∀j (hj:j<s.uses.length),j<k→q1Y s.pieces.length s.uses[j]=false) (m:=fun k=>s.uses.length-k) 0 ⟨Nat.zero_le _,fun j _ h=>by omega⟩ (by omega) ?_ ?_)
 ·exact q03 rfl ⟨rfl,trivial⟩ rfl
 rintro k ⟨hk,hu⟩ N hN
 refine gg rfl ?_
 rw[List.length_map]
 refine q01 rfl (fun e=>?_) (fun e=>?_)
 ·rw[q06]at e
  have hlt:k<s.uses.length:=by omega
  have w1:=wS (n:=k)
  have hx:(s.uses.map Use.enc)[k]?=some s.uses[k].enc:=q1A hlt
  have bad:q1Y s.pieces.length s.uses[k]=true→s.uses.any (q1Y s.pieces.length)=true:=fun h=>q29 hlt h
  have hnx:q1Y s.pieces.length s.uses[k]=false→∀j (hj:j<s.uses.length),j<k+1→q1Y s.pieces.length s.uses[j]=false:=by
   intro h j hj hjk
   by_cases ej:j=k
   ·subst ej;exact h
   exact hu j hj (by omega)
  generalize s.uses[k]=u at*
  refine gg rfl (q0i k rfl rfl rfl hx rfl (gg rfl (q09 rfl (fun f1=>?_) (fun f1=>?_))))
  ·rw[q06]at f1
   refine gg rfl (q0h rfl (gg rfl (q0h rfl (gg rfl (q0d rfl (gg rfl (q04 (gg rfl (q08 rfl rfl rfl trivial ?_)))))))))
   rw[if_pos (bad (by simp[q1Y];omega))]
  rw[q07]at f1
  refine gg rfl ?_
  rw[List.length_map]
  refine q09 rfl (fun f2=>?_) (fun f2=>?_)
  ·rw[q0E]at f2
   refine gg rfl (q0h rfl (gg rfl (q0d rfl (gg rfl (q04 (gg rfl (q08 rfl rfl rfl trivial ?_)))))))
   rw[if_pos (bad (by simp[q1Y];omega))]
  rw[q0F]at f2
  refine gg rfl (q09 rfl (fun f3=>?_) (fun f3=>?_))
  ·rw[q06]at f3
   refine gg rfl (q0d rfl (gg rfl (q04 (gg rfl (q08 rfl rfl rfl trivial ?_)))))
   rw[if_pos (bad (by simp[q1Y];omega))]
  rw[q07]at f3
  refine gg rfl (q01 rfl (fun f4=>?_) (fun f4=>?_))
  ·rw[q06]at f4
   refine gg rfl (q04 (gg rfl (q08 rfl rfl rfl trivial ?_)))
   rw[if_pos (bad (by simp[q1Y];omega))]
  rw[q07]at f4
  exact gg rfl (q04 (hN (k+1) ⟨hlt,hnx (by simp[q1Y];omega)⟩ (by omega) (q03 rfl ⟨rfl,trivial⟩ (by rw[w1];rfl))))
 rw[q07]at e
 obtain rfl:k=s.uses.length:=by omega
 clear hN
 rw[if_neg (by rw[q1Z fun j hj=>hu j hj hj];decide)]
 refine gg rfl (q04 (gg rfl (q0l (S:=fun k:Nat=>([.ptr 0 0 0,q00 k],[some (.row [s.enc] 7),none],[0,0])) (C:=fun k=>k≤s.seams.length∧q0G (q43 s) k=0) (m:=fun k=>s.seams.length-k) 0 ⟨Nat.zero_le _,rfl⟩ (by omega) ?_ ?_)))
 ·exact q03 rfl ⟨rfl,trivial⟩ rfl
 rintro k ⟨hk,h0⟩ N hN
 refine gg rfl ?_
 rw[List.length_map]
 refine q01 rfl (fun e=>?_) (fun e=>?_)
 ·rw[q06]at e
  have hlt:k<s.seams.length:=by omega
  have w1:=wS (n:=k)
  have hx:=qjN hlt
  have bad:∀x,q6e s (sw s.seams k)=x→x≠0→q0G (q43 s) s.seams.length=x:=by
   intro x h hx0
   have:=q3u (f:=q43 s) h0 (by show q6e s (sw s.seams k)≠0;rw[h];exact hx0) hlt
   rw[this];exact h
  have good:q6e s (sw s.seams k)=0→q0G (q43 s) (k+1)=0:=fun h=>q2o h0 h
  generalize sw s.seams k=m at*
  have e1:=qfY s m.pa m.ea
  have e2:=qfY s m.pb m.eb
  refine gg rfl (q0i k rfl rfl rfl hx rfl (gg rfl (q02 rfl rfl e1 ?_)))
  cases ha:q1P s m.pa m.ea with
  |false=>
   refine gg rfl (q0h rfl (gg rfl (q0d rfl (gg rfl (q04 (gg rfl (q08 rfl rfl rfl trivial ?_)))))))
   rw[bad 3 (by rw[q6e,if_pos (.inl ha)]) (by decide)]
  |true=>
   refine gg rfl (q0n rfl (gg rfl (q02 rfl rfl e2 ?_)))
   cases hb:q1P s m.pb m.eb with
   |false=>
    refine gg rfl (q0d rfl (gg rfl (q04 (gg rfl (q08 rfl rfl rfl trivial ?_)))))
    rw[bad 3 (by rw[q6e,if_pos (.inr hb)]) (by decide)]
   |true=>
    have hn:¬(q1P s m.pa m.ea=false∨q1P s m.pb m.eb=false):=by rw[ha,hb];simp
    refine gg rfl (q0j rfl (gg rfl (q01 rfl (fun f=>?_) (fun f=>?_))))
    ·rw[q06]at f
     refine gg rfl (q04 (gg rfl (q08 rfl rfl rfl trivial ?_)))
     rw[bad 1 (by rw[q6e,if_neg hn,if_pos f]) (by decide)]
    rw[q07]at f
    exact gg rfl (q04 (hN (k+1) ⟨hlt,good (by rw[q6e,if_neg hn,if_neg (by omega)])⟩ (by omega) (q03 rfl ⟨rfl,trivial⟩ (by rw[w1];rfl))))
 rw[q07]at e
 obtain rfl:k=s.seams.length:=by omega
 clear hN
 refine gg rfl (q04 (gg rfl (q08 rfl rfl rfl trivial ?_)))
 rw[h0]
theorem qxv {s:Sty}(h:sizedB s=false):q2m s=1:=by
 unfold sizedB at h
 have h:=of_decide_eq_false h
 unfold q2m
 by_cases c1:q1M s.name=false∨s.sizes.length=0
 ·rw[if_pos c1]
 rw[if_neg c1]
 by_cases c2:s.sizes.any (fun x=>!sizeS x)=true
 ·rw[if_pos c2]
 rw[if_neg c2]
 by_cases c3:s.mults.length≠s.sizes.length∨0∉s.mults
 ·rw[if_pos c3]
 exfalso
 refine h ⟨?_,fun e=>c1 (.inr e),by simpa using c2,?_,?_⟩
 ·cases hn:q1M s.name with
  |true=>rfl
  |false=>exact absurd (.inl hn) c1
 ·by_cases e:0∈s.mults
  ·exact e
  exact absurd (.inr e) c3
 by_cases e:s.mults.length=s.sizes.length
 ·exact e
 exact absurd (.inl e) c3
theorem qzN {s:Sty}(h:sizedB s=true):q2m s=if q4P s.sizes then 7 else if qiv s then 5 else if s.mults.any (fun m=>decide (m< -100) ||decide (100<m))then 3 else 0:=by
 unfold sizedB at h
 obtain⟨h1,h2,h3,h4,h5⟩:=of_decide_eq_true h
 unfold q2m
 rw[if_neg (by rintro(e|e);rw[h1]at e;cases e;exact h2 e),if_neg (by rw[h3];decide),if_neg (by rintro(e|e);exact e h5;exact e h4)]
 by_cases c:q4P s.sizes=true
 ·rw[if_pos c,if_pos c]
 rw[if_neg c,if_neg c]
 unfold qiv
 by_cases d1:12<s.sizes.length∨12<s.pieces.length∨12<s.uses.length
 ·rw[if_pos d1,if_pos (decide_eq_true (by omega))]
 rw[if_neg d1]
 by_cases d2:24<s.seams.length∨16<s.ops.length
 ·rw[if_pos d2,if_pos (decide_eq_true (by omega))]
 have d3:¬decide (12<s.sizes.length∨12<s.pieces.length∨24<s.seams.length∨16<s.ops.length∨12<s.uses.length)=true:=by rw[decide_eq_true_eq];omega
 rw[if_neg d2,if_neg d3]
set_option maxHeartbeats 8000000 in
theorem quF (s:Sty)(hB:StyB s):PU qwe [s.enc]=some (.int .i64 (q2M s)):=by
 have b1:=hB.pieces
 have b2:=hB.mults
 refine q0g (fn:=qlm) rfl (q0a ?_)
 refine gg rfl (q02 rfl rfl (quB s hB) ?_)
 cases hsz:sizedB s with
 |false=>
  refine gg rfl (q0d rfl (gg rfl (q08 rfl rfl rfl trivial ?_)))
  rw[q2M,qxv hsz];rfl
 |true=>
  have hw:=qzN hsz
  refine gg rfl (q0j rfl (gg rfl (q02 rfl rfl (quC s.sizes hB.sizes) ?_)))
  cases ht:q4P s.sizes with
  |true=>
   refine gg rfl (q0d rfl (gg rfl (q08 rfl rfl rfl trivial ?_)))
   rw[ht]at hw
   rw[q2M,hw];rfl
  |false=>
   rw[if_neg (by rw[ht];decide)]at hw
   refine gg rfl (q0j rfl (gg rfl (q02 rfl rfl (qxu s) ?_)))
   cases hlg:qiv s with
   |true=>
    refine gg rfl (q0d rfl (gg rfl (q08 rfl rfl rfl trivial ?_)))
    rw[hlg]at hw
    rw[q2M,hw];rfl
   |false=>
    rw[if_neg (by rw[hlg];decide)]at hw
    refine gg rfl (q0j rfl (gg rfl (q0l (S:=fun k:Nat=>([.ptr 0 0 0,q00 k],[some (.row [s.enc] 7),none],[0,0])) (C:=fun k=>k≤s.mults.length∧∀j (hj:j<s.mults.length),j<k→(decide (s.mults[j]< -100) ||decide (100<s.mults[j]))=false) (m:=fun k=>s.mults.length-k) 0 ⟨Nat.zero_le _,fun j _ h=>by omega⟩ (by omega) ?_ ?_)))
    ·exact q03 rfl ⟨rfl,trivial⟩ rfl
    rintro k ⟨hk,hm⟩ N hN
    refine gg rfl ?_
    rw[List.length_map]
    refine q01 rfl (fun e=>?_) (fun e=>?_)
    ·rw[q06]at e
     have hlt:k<s.mults.length:=by omega
     have w1:=wS (n:=k)
     have bad:(decide (s.mults[k]< -100) ||decide (100<s.mults[k]))=true→q2M s=3:=by
      intro h
      have ha:s.mults.any (fun m=>decide (m< -100) ||decide (100<m))=true:=q29 hlt h
      rw[if_pos ha]at hw
      rw[q2M,hw];rfl
     have hx:(s.mults.map q00)[k]?=some (.int .i64 s.mults[k]):=q1A hlt
     refine gg rfl (q0i k rfl rfl rfl hx rfl (gg rfl (q09 rfl (fun f1=>?_) (fun f1=>?_))))
     ·rw[q06]at f1
      refine gg rfl (q0d rfl (gg rfl (q04 (gg rfl (q08 rfl rfl rfl trivial ?_)))))
      rw[bad (by simp;omega)]
     rw[q07]at f1
     refine gg rfl (q0i k rfl rfl rfl hx rfl (gg rfl (q01 rfl (fun f2=>?_) (fun f2=>?_))))
     ·rw[q06]at f2
      refine gg rfl (q04 (gg rfl (q08 rfl rfl rfl trivial ?_)))
      rw[bad (by simp;omega)]
     rw[q07]at f2
     refine gg rfl (q04 (hN (k+1) ⟨hlt,fun j hj hjk=>?_⟩ (by omega) (q03 rfl ⟨rfl,trivial⟩ (by rw[w1];rfl))))
     by_cases ej:j=k
     ·subst ej;simp;omega
     exact hm j hj (by omega)
    rw[q07]at e
    obtain rfl:k=s.mults.length:=by omega
    clear hN
    rw[if_neg (by rw[q1Z fun j hj=>hm j hj hj];decide)]at hw
    have hw2:q2M s=if q0G (q2q s) s.pieces.length≠0 then q0G (q2q s) s.pieces.length else quE s:=by
     rw[q2M,if_neg (by simp[hw])];rfl
    rw[hw2]
    refine gg rfl (q04 (gg rfl (q0l (S:=fun k:Nat=>([.ptr 0 0 0,q00 k],[some (.row [s.enc] 7),none],[0,0])) (C:=fun k=>k≤s.pieces.length∧q0G (q2q s) k=0) (m:=fun k=>s.pieces.length-k) 0 ⟨Nat.zero_le _,rfl⟩ (by omega) ?_ ?_)))
    ·exact q03 rfl ⟨rfl,trivial⟩ rfl
    rintro k ⟨hk,h0⟩ N hN
    refine gg rfl ?_
    rw[List.length_map]
    refine q01 rfl (fun e=>?_) (fun e=>?_)
    ·rw[q06]at e
     have hlt:k<s.pieces.length:=by omega
     have w1:=wS (n:=k)
     have hp:=quD (s.pieces.take k) (pc s.pieces k) (by rw[List.length_take];omega) (hB.corners _ (q7e hlt)) (hB.widths _ (q7e hlt))
     refine gg rfl (qcK k rfl (q1o (n:=7) (fun _=>rfl) _) ⟨_,_,rfl,rfl⟩ (by rw[List.length_map];omega) ?_)
     rw[←List.map_take]
     refine gg rfl (q0i k rfl rfl rfl (q4q hlt) rfl (gg rfl (q02 rfl rfl hp (gg rfl (q01 rfl (fun f=>?_) (fun f=>?_))))))
     ·rw[q0u]at f
      refine gg rfl (q04 (gg rfl (q08 rfl rfl rfl trivial ?_)))
      have f':q2q s k≠0:=f
      have hf:=q3u (f:=q2q s) h0 f' hlt
      rw[hf,if_pos f'];rfl
     rw[q0z]at f
     exact gg rfl (q04 (hN (k+1) ⟨hlt,q2o h0 f⟩ (by omega) (q03 rfl ⟨rfl,trivial⟩ (by rw[w1];rfl))))
    rw[q07]at e
    obtain rfl:k=s.pieces.length:=by omega
    clear hN
    rw[if_neg (by simp[h0])]
    exact gg rfl (q04 (gg rfl (q02 rfl rfl (qrj s hB) (gg rfl (q08 rfl rfl rfl trivial rfl)))))
end Go.F

namespace Go.F
attribute [local irreducible] IntKind.wrap wpM
theorem q1q (l:List Nat)(i:Nat) [ho:LOk l](hi:i≤4000000000):PU qzg [nat l,.int .i64 i]=some (.int .u64 (dg l i)):=by
 have hd:=q1j ho i
 refine q0g (fn:=qnx) rfl (q0a ?_)
 refine gg rfl (q09 rfl (fun h=>?_) (fun h=>?_))
 ·rw[q06]at h;omega
 refine gg rfl ?_
 rw[List.length_map]
 refine q01 rfl (fun h1=>?_) (fun h1=>?_)
 ·rw[q0E]at h1
  refine gg rfl (q08 rfl rfl rfl trivial ?_)
  rw[q7l (by omega)];rfl
 rw[q0F]at h1
 refine gg rfl (q0i i rfl rfl rfl (q2B (by omega)) rfl ?_)
 refine gg rfl (q08 rfl rfl rfl trivial ?_)
 rw[q0C (by omega)]
theorem q21 (l:List Nat) [ho:LOk l](hl:l.length≤1000000000):PU qzf [nat l]=some (nat (q0f (val l))):=by
 refine q0g (fn:=qnJ) rfl (q0a ?_)
 refine gg rfl (q0l (S:=fun n:Nat=>([nat l,q00 n],[none,none],[0,0])) (C:=fun n=>n≤l.length∧∀i,n≤i→dg l i=0) (m:=fun n=>n) l.length ⟨Nat.le_refl _,fun i hi=>q7l hi⟩ (by omega) ?_ ?_)
 ·exact q03 rfl trivial (by simp[nat,q00])
 intro n ⟨hn,h0⟩ N hN
 have fin:(n=0∨dg l (n-1)≠0)→(l.map u32).take n=(q0f (val l)).map u32:=fun h=>by
  rw[←qsz ho hn h0 h,List.map_take]
 have hlen:=q1F ho
 refine gg rfl (q09 rfl (fun h1=>?_) (fun h1=>?_))
 ·rw[q06]at h1
  have w1:IntKind.i64.wrap ((n:Int)-1)=((n-1:Nat):Int):=by rw[wrap64 (by omega) (by omega)];omega
  refine gg rfl (q0i (n-1) rfl rfl w1 (q2B (by omega)) rfl ?_)
  refine gg rfl (q01 rfl (fun h2=>?_) (fun h2=>?_))
  ·rw[q1n]at h2
   refine gg rfl (q04 (hN (n-1) ⟨by omega,fun i hi=>?_⟩ (by omega) (q03 rfl trivial (by simp[nat,q00,w1]))))
   by_cases hin:i=n-1
   ·subst hin;omega
   exact h0 i (by omega)
  rw[q1Q]at h2
  refine gg rfl (q04 (gg rfl (qcK n rfl (q1o (f:=u32) (n:=1) (fun _=>rfl) _) ⟨_,_,rfl,rfl⟩ (by simpa using hn) ?_)))
  rw[fin (.inr (by omega))]
  refine gg rfl (qsZ rfl rfl (q1o (f:=u32) (n:=1) (fun _=>rfl) _) (by simp[q0M];omega) ?_)
  exact gg rfl (q08 rfl rfl rfl ⟨q3H (by simp),trivial⟩ (q42 (by simp)))
 rw[q07]at h1
 refine gg rfl (q0j rfl (gg rfl (q04 (gg rfl (qcK n rfl (q1o (f:=u32) (n:=1) (fun _=>rfl) _) ⟨_,_,rfl,rfl⟩ (by simpa using hn) ?_)))))
 rw[fin (.inl (by omega))]
 refine gg rfl (qsZ rfl rfl (q1o (f:=u32) (n:=1) (fun _=>rfl) _) (by simp[q0M];omega) ?_)
 exact gg rfl (q08 rfl rfl rfl ⟨q3H (by simp),trivial⟩ (q42 (by simp)))
theorem qmF (n k:Nat)(h:n/4294967296^k≠0):(q0f n).take (k+1)=(q0f n).take k++[n/4294967296^k%4294967296]:=by
 have hl:k<(q0f n).length:=by
  rcases Nat.lt_or_ge k (q0f n).length with g|g
  ·exact g
  exact absurd (Nat.div_eq_of_lt (q0q.1 g)) h
 rw[qAX hl,qzw (q0A n),q0o]
theorem qeM (n:Nat)(hn:n<18446744073709551616):PU qET [.int .u64 n]=some (nat (q0f n)):=by
 refine q0g (fn:=qvF) rfl (q0a ?_)
 refine gg rfl (q0l (S:=fun k:Nat=>([.int .u64 (n/4294967296^k:Nat),.ref 1 0 ((q0f n).take k).length],[none,some (.row (((q0f n).take k).map u32) 1)],[0,0])) (C:=fun k=>k≤3) (m:=fun k=>4-k) 0 (by omega) (by omega) ?_ ?_)
 ·exact q03 rfl ⟨rfl,trivial⟩ (by simp)
 intro k hk N hN
 have hle:n/4294967296^k≤n:=Nat.div_le_self _ _
 refine gg rfl (q01 rfl (fun h1=>?_) (fun h1=>?_))
 ·rw[q06]at h1
  have hne:n/4294967296^k≠0:=by omega
  have hst:=qmF n k hne
  have hdd:n/4294967296^(k+1)=n/4294967296^k/4294967296:=by rw[Nat.pow_succ,Nat.div_div_eq_div_mul]
  have hk2:k+1≤3:=by
   rcases Nat.lt_or_ge k 3 with g|g
   ·omega
   obtain rfl:k=3:=by omega
   exact absurd (Nat.div_eq_of_lt (show n<4294967296^3 by omega)) hne
  generalize n/4294967296^k=m at*
  refine gg rfl (q7b m 4294967296 rfl rfl rfl rfl (by decide) ?_)
  refine gg rfl ?_
  rw[q13,Nat.mod_mod]
  refine q1b rfl rfl rfl rfl rfl rfl (by simp) (Nat.zero_le _) (by simp[q0M];omega) ?_
  refine gg rfl (q2Z m 4294967296 rfl rfl rfl rfl (by decide) (q0C (by omega)) ?_)
  refine gg rfl (q04 (hN (k+1) hk2 (by omega) (q03 rfl ⟨?_,trivial⟩ ?_)))
  ·rw[List.all_append,q05 q0t];rfl
  rw[hst,hdd]
  simp[u32]
 rw[q07]at h1
 have hz:n/4294967296^k=0:=by
  have:((n/4294967296^k:Nat):Int)≤0:=h1
  exact Nat.le_zero.1 (by exact_mod_cast this)
 have hl:(q0f n).length≤k:=q0q.2 (by
  rcases Nat.lt_or_ge n (4294967296^k)with g|g
  ·exact g
  have:=Nat.div_pos g (Nat.pow_pos (n:=k) (show 0<4294967296 by decide));omega)
 rw[List.take_of_length_le hl]
 exact gg rfl (q04 (gg rfl (q08 rfl rfl rfl ⟨q3H (by simp),trivial⟩ (q42 (by simp)))))
theorem qxw {a b:List Nat}{n:Nat}(h:∀i,n≤i→dg a i=dg b i):val (a.drop n)=val (b.drop n):=by
 have key:∀k n,n+k=a.length+b.length→(∀i,n≤i→dg a i=dg b i)→val (a.drop n)=val (b.drop n):=by
  intro k
  induction k with
  |zero=>intro n hn _;rw[List.drop_of_length_le (by omega),List.drop_of_length_le (by omega)]
  |succ k ih=>intro n hn h;rw[q2R,q2R b,h n (Nat.le_refl _),ih (n+1) (by omega) (fun i hi=>h i (by omega))]
 by_cases hn:n≤a.length+b.length
 ·exact key (a.length+b.length-n) n (by omega) h
 rw[List.drop_of_length_le (by omega),List.drop_of_length_le (by omega)]
theorem qpL {a b:List Nat}(ha:LOk a){i:Nat}(h:∀j,i+1≤j→dg a j=dg b j)(hi:dg a i<dg b i):val a<val b:=by
 have e1:=q2L a i
 have e2:=q2L b i
 rw[q2R,qxw h]at e1
 rw[q2R]at e2
 have h1:=q2Y (ha.take i)
 have h3:4294967296^(a.take i).length≤4294967296^i:=Nat.pow_le_pow_right (by decide) (by simp;omega)
 generalize 4294967296^i=P at*
 generalize 4294967296*val (List.drop (i+1) b)=R at*
 have h2:P*(dg a i+R)+P≤P*(dg b i+R):=by
  rw[←Nat.mul_succ];exact Nat.mul_le_mul_left _ (by omega)
 omega
theorem qzP (a b:List Nat) [ha:LOk a] [hb:LOk b](hla:a.length≤1000000000)(hlb:b.length≤1000000000):PU qCt [nat a,nat b]=some (.int .i64 (q3B (val a) (val b))):=by
 refine q0g (fn:=qs6) rfl (q0a ?_)
 refine gg rfl ?_
 rw[List.length_map,List.length_map]
 refine q0l (S:=fun n:Nat=>([nat a,nat b,.int .i64 ((n:Int)-1)],[none,none,none],[0,0,0])) (C:=fun n=>n≤max a.length b.length∧∀i,n≤i→dg a i=dg b i) (m:=fun n=>n) (max a.length b.length) ⟨Nat.le_refl _,fun i hi=>by rw[q7l (by omega),q7l (by omega)]⟩ (by omega) ?_ ?_
 ·refine q03 rfl trivial ?_
  have:IntKind.i64.wrap (max (a.length:Int) b.length-1)=((max a.length b.length:Nat):Int)-1:=by rw[wrap64 (by omega) (by omega)];omega
  simp[nat,this]
 intro n ⟨hn,hall⟩ N hN
 refine gg rfl (q01 rfl (fun h1=>?_) (fun h1=>?_))
 ·rw[q0E]at h1
  have hn1:((n:Int)-1)=((n-1:Nat):Int):=by omega
  have w1:=ww (x:=((n-1:Nat):Int)-1)
  have hxa:=q1j ha (n-1)
  have hall':∀j,n-1+1≤j→dg a j=dg b j:=fun j hj=>hall j (by omega)
  rw[hn1]
  refine gg rfl (q02 rfl rfl (q1q a (n-1) (by omega)) ?_)
  refine gg rfl (q02 rfl rfl (q1q b (n-1) (by omega)) ?_)
  refine gg rfl (q01 rfl (fun h2=>?_) (fun h2=>?_))
  ·rw[q06]at h2
   refine gg rfl (q04 (gg rfl (q08 rfl rfl rfl trivial ?_)))
   have:=qpL ha hall' (by omega)
   rw[q3B,if_pos (by omega)]
  rw[q07]at h2
  refine gg rfl (q02 rfl rfl (q1q a (n-1) (by omega)) ?_)
  refine gg rfl (q02 rfl rfl (q1q b (n-1) (by omega)) ?_)
  refine gg rfl (q01 rfl (fun h3=>?_) (fun h3=>?_))
  ·rw[q06]at h3
   refine gg rfl (q04 (gg rfl (q08 rfl rfl rfl trivial ?_)))
   have:=qpL hb (fun j hj=>(hall' j hj).symm) (show dg b (n-1)<dg a (n-1)by omega)
   rw[q3B,if_neg (by omega),if_pos (by omega)]
  rw[q07]at h3
  refine gg rfl (q04 (hN (n-1) ⟨by omega,fun i hi=>?_⟩ (by omega) (q03 rfl trivial (by simp[nat,w1]))))
  by_cases hin:i=n-1
  ·subst hin;omega
  exact hall i (by omega)
 rw[q0F]at h1
 obtain rfl:n=0:=by omega
 refine gg rfl (q04 (gg rfl (q08 rfl rfl rfl trivial ?_)))
 have h:=qxw (a:=a) (b:=b) (n:=0) hall
 rw[List.drop_zero,List.drop_zero]at h
 rw[h,q3B,if_neg (by omega),if_neg (by omega)]
set_option maxHeartbeats 1000000 in
theorem qpM (a b:List Nat) [ha:LOk a] [hb:LOk b](hla:a.length≤100000000)(hlb:b.length≤100000000):PU qCl [nat a,nat b]=some (nat (q0f (val a+val b))):=by
 refine q0g (fn:=qs0) rfl (q0a ?_)
 refine gg rfl ?_
 refine q0l (S:=fun x:Nat×List Nat×Nat=>([nat a,nat b,.ref 2 0 x.2.1.length,.int .u64 x.2.2,q00 x.1],[none,none,some (.row (x.2.1.map u32) 1),none,none],[0,0,0,0,0]))
  (C:=fun x=>x.1≤max a.length b.length+1∧x.2.1.length=x.1∧LOk x.2.1∧x.2.2≤1∧(x.1=max a.length b.length+1→x.2.2=0)∧val x.2.1+4294967296^x.1*x.2.2=val (a.take x.1)+val (b.take x.1)) (m:=fun x=>max a.length b.length+1-x.1) (0,[],0) ⟨Nat.zero_le _,rfl,qpc,by decide,fun h=>by simp at h,by simp[val]⟩ (by simp;omega) ?_ ?_
 ·exact q03 rfl ⟨rfl,trivial⟩ (by simp[nat,q00])
 rintro⟨k,r,c⟩ ⟨hk,hr,hro,hc,hlast,hinv⟩ N hN
 simp only at hk hr hro hc hlast hinv
 have hx:=q1j ha k
 have hy:=q1j hb k
 have w1:=wS (n:=k)
 have next:k≤max a.length b.length→∀{t:q0x} {h:q0e} {z:Frz} {nx:Nat},(q12 0 [(0,0),(1,0),(5,1),(6,0),(7,0)] t h z nx fun _ _ kp=>kp=([nat a,nat b,.ref 2 0 (r++[(dg a k+dg b k+c)%4294967296]).length,.int .u64 ((dg a k+dg b k+c)/4294967296:Nat),q00 ((k+1:Nat):Int)],[none,none,some (.row ((r++[(dg a k+dg b k+c)%4294967296]).map u32) 1),none,none],[0,0,0,0,0]))→N t h z nx:=by
  intro hkm t h z nx hst
  refine hN (k+1,r++[(dg a k+dg b k+c)%4294967296],(dg a k+dg b k+c)/4294967296) ⟨by simp only;omega,by simp[hr],hro.snoc (by omega),by simp only;omega,?_,?_⟩ (by simp only;omega) hst
  ·simp only
   intro hkk
   have h1:dg a k=0:=q7l (by omega)
   have h2:dg b k=0:=q7l (by omega)
   rw[h1,h2];omega
  simp only
  rw[q5Y,hr,q0R,q0R,Nat.pow_succ,Nat.add_assoc,q4j,Nat.mul_add,Nat.mul_add]
  omega
 clear hN
 have e:IntKind.u64.wrap (IntKind.u64.wrap ((dg a k:Int)+(dg b k:Int))+(c:Int))=((dg a k+dg b k+c:Nat):Int):=by simp only[q0U];omega
 refine gg rfl ?_
 rw[List.length_map,List.length_map]
 refine q09 rfl (fun h1=>?_) (fun h1=>?_)
 ·rw[q06]at h1
  refine gg rfl (q0d rfl (gg rfl (q02 rfl rfl (q1q a k (by omega)) ?_)))
  refine gg rfl (q02 rfl rfl (q1q b k (by omega)) ?_)
  refine gg rfl ?_
  rw[e]
  refine q7b (dg a k+dg b k+c) 4294967296 rfl rfl rfl rfl (by decide) ?_
  refine gg rfl ?_
  rw[q13,Nat.mod_mod]
  refine q1b rfl rfl rfl rfl rfl rfl (by simp) (Nat.zero_le _) (by simp[q0M];omega) ?_
  refine gg rfl (q2Z (dg a k+dg b k+c) 4294967296 rfl rfl rfl rfl (by decide) (q0C (by omega)) ?_)
  refine gg rfl (q04 (next (by omega) (q03 rfl ⟨?_,trivial⟩ ?_)))
  ·rw[List.all_append,q05 q0t];rfl
  simp[nat,q00,w1,u32]
 rw[q07]at h1
 refine gg rfl (q01 rfl (fun h2=>?_) (fun h2=>?_))
 ·rw[q06]at h2
  simp only at h2
  have hkm:k≤max a.length b.length:=by
   rcases Nat.lt_or_ge k (max a.length b.length+1)with g|g
   ·omega
   have:=hlast (by omega);omega
  refine gg rfl (q02 rfl rfl (q1q a k (by omega)) ?_)
  refine gg rfl (q02 rfl rfl (q1q b k (by omega)) ?_)
  refine gg rfl ?_
  rw[e]
  refine q7b (dg a k+dg b k+c) 4294967296 rfl rfl rfl rfl (by decide) ?_
  refine gg rfl ?_
  rw[q13,Nat.mod_mod]
  refine q1b rfl rfl rfl rfl rfl rfl (by simp) (Nat.zero_le _) (by simp[q0M];omega) ?_
  refine gg rfl (q2Z (dg a k+dg b k+c) 4294967296 rfl rfl rfl rfl (by decide) (q0C (by omega)) ?_)
  refine gg rfl (q04 (next hkm (q03 rfl ⟨?_,trivial⟩ ?_)))
  ·rw[List.all_append,q05 q0t];rfl
  simp[nat,q00,w1,u32]
 rw[q07]at h2
 simp only at h2
 obtain rfl:c=0:=by omega
 have hp:=q21 r (by omega)
 have hv:val r=val a+val b:=by
  rw[List.take_of_length_le (by omega),List.take_of_length_le (by omega)]at hinv
  omega
 rw[hv]at hp
 refine gg rfl (q04 (gg rfl (q1T rfl rfl ⟨q3H (l:=r) rfl,trivial⟩ (by rw[q42 rfl];exact hp) fun z=>?_)))
 exact gg rfl (q08 rfl rfl rfl trivial rfl)
set_option maxHeartbeats 1000000 in
theorem qgz (a b:List Nat) [ha:LOk a] [hb:LOk b](hla:a.length≤100000000)(hlb:b.length≤100000000):
 PU qCp [nat a,nat b]=some (if val a<val b then .tup [nat [],.bool false]else .tup [nat (q0f (val a-val b)),.bool true]):=by
 refine q0g (fn:=qrU) rfl (q0a ?_)
 refine gg rfl (q02 rfl rfl (qzP a b (by omega) (by omega)) ?_)
 refine gg rfl (q01 rfl (fun h1=>?_) (fun h1=>?_))
 ·rw[q06]at h1
  have:val a<val b:=by
   unfold q3B at h1
   split at h1
   ·omega
   split at h1<;>omega
  refine gg rfl (q08 rfl rfl rfl trivial ?_)
  rw[if_pos this];rfl
 rw[q07]at h1
 have hle:val b≤val a:=by
  unfold q3B at h1
  split at h1
  ·omega
  omega
 rw[if_neg (by omega)]
 refine gg rfl ?_
 refine q0l (S:=fun x:Nat×List Nat×Nat=>([nat a,nat b,.ref 2 0 x.2.1.length,.int .u64 x.2.2,q00 x.1],[none,none,some (.row (x.2.1.map u32) 1),none,none],[0,0,0,0,0]))
  (C:=fun x=>x.1≤max a.length b.length∧x.2.1.length=x.1∧LOk x.2.1∧x.2.2≤1∧val x.2.1+val (b.take x.1)=val (a.take x.1)+4294967296^x.1*x.2.2) (m:=fun x=>max a.length b.length-x.1) (0,[],0) ⟨Nat.zero_le _,rfl,qpc,by decide,by simp[val]⟩ (by simp;omega) ?_ ?_
 ·exact q03 rfl ⟨rfl,trivial⟩ (by simp[nat,q00])
 rintro⟨k,r,c⟩ ⟨hk,hr,hro,hc,hinv⟩ N hN
 simp only at hk hr hro hc hinv
 have hx:=q1j ha k
 have hy:=q1j hb k
 have w1:=wS (n:=k)
 refine gg rfl ?_
 rw[List.length_map,List.length_map]
 refine q01 rfl (fun h2=>?_) (fun h2=>?_)
 ·rw[q06]at h2
  have e:IntKind.u64.wrap (IntKind.u64.wrap (IntKind.u64.wrap (4294967296+(dg a k:Int))-(dg b k:Int))-(c:Int))=((4294967296+dg a k-dg b k-c:Nat):Int):=by simp only[q0U];omega
  have e2:IntKind.u64.wrap (1-(((4294967296+dg a k-dg b k-c)/4294967296:Nat):Int))=((1-(4294967296+dg a k-dg b k-c)/4294967296:Nat):Int):=by rw[q0U];omega
  generalize hT:4294967296+dg a k-dg b k-c=T at*
  refine gg rfl (q02 rfl rfl (q1q a k (by omega)) ?_)
  refine gg rfl (q02 rfl rfl (q1q b k (by omega)) ?_)
  refine gg rfl ?_
  rw[e]
  refine q7b T 4294967296 rfl rfl rfl rfl (by decide) ?_
  refine gg rfl ?_
  rw[q13,Nat.mod_mod]
  refine q1b rfl rfl rfl rfl rfl rfl (by simp) (Nat.zero_le _) (by simp[q0M];omega) ?_
  refine gg rfl (q2Z T 4294967296 rfl rfl rfl rfl (by decide) (q0C (by omega)) ?_)
  refine gg rfl ?_
  rw[e2]
  refine q04 (hN (k+1,r++[T%4294967296],1-T/4294967296) ⟨by simp only;omega,by simp[hr],hro.snoc (by omega),by simp only;omega,?_⟩ (by simp only;omega) (q03 rfl ⟨?_,trivial⟩ ?_))
  ·simp only
   rw[q5Y,hr,q0R,q0R,Nat.pow_succ]
   have e3:T%4294967296+(c+dg b k)=dg a k+4294967296*(1-T/4294967296):=by omega
   have e4:4294967296^k*(T%4294967296)+(4294967296^k*c+4294967296^k*dg b k)=4294967296^k*dg a k+4294967296^k*4294967296*(1-T/4294967296):=by
    rw[←Nat.mul_add,←Nat.mul_add,e3,Nat.mul_add,Nat.mul_assoc]
   omega
  ·rw[List.all_append,q05 q0t];rfl
  simp[nat,q00,w1,u32]
 rw[q07]at h2
 rw[List.take_of_length_le (by omega),List.take_of_length_le (by omega)]at hinv
 have hv:val r=val a-val b:=by
  have h1:=q2Y hro
  rw[hr]at h1
  have hc0:c=0∨c=1:=by omega
  rcases hc0 with rfl|rfl
  ·omega
  omega
 have hp:=q21 r (by omega)
 rw[hv]at hp
 refine gg rfl (q04 (gg rfl (q1T rfl rfl ⟨q3H (l:=r) rfl,trivial⟩ (by rw[q42 rfl];exact hp) fun z=>?_)))
 exact gg rfl (q08 rfl rfl rfl trivial rfl)
end Go.F

namespace Go.F
attribute [local irreducible] IntKind.wrap wpM
set_option maxHeartbeats 4000000 in
theorem q4o (A B:List Nat) [hAo:LOk A] [hBo:LOk B](hla:A.length≤100000000)(hlb:B.length≤100000000):PU qCi [nat A,nat B]=some (nat (q0f (val A*val B))):=by
 refine q0g (fn:=qsh) rfl (q0a ?_)
 refine gg rfl ?_
 have w0:IntKind.i64.wrap (((A.map u32).length:Int)+((B.map u32).length:Int))=((A.length+B.length:Nat):Int):=by rw[List.length_map,List.length_map,wrap64 (by omega) (by omega)];omega
 rw[w0]
 refine q44 (A.length+B.length) rfl rfl rfl (by simp[q0M];omega) ?_
 rw[q7r]
 refine gg rfl ?_
 refine q0l (S:=fun x:Nat×List Nat=>([nat A,nat B,.ref 2 0 (A.length+B.length),q00 x.1],[none,none,some (.row (x.2.map u32) 1),none],[0,0,0,0]))
  (C:=fun x=>x.1≤A.length∧x.2.length=A.length+B.length∧LOk x.2∧val x.2=val (A.take x.1) *val B∧∀j,x.1+B.length≤j→dg x.2 j=0) (m:=fun x=>A.length-x.1) (0,List.replicate (A.length+B.length) 0)
  ⟨Nat.zero_le _,by simp,q54 _,by simp[val,qaH],fun j _=>q6X _ _⟩ (by simp;omega) ?_ ?_
 ·exact q03 rfl ⟨q05 q0t _,trivial⟩ (by simp[nat,q00])
 rintro⟨k,r⟩ ⟨hk,hr,hro,hinv,hz⟩ N hN
 simp only at hk hr hro hinv hz
 refine gg rfl ?_
 rw[List.length_map]
 refine q01 rfl (fun h2=>?_) (fun h2=>?_)
 ·rw[q06]at h2
  have hlt:k<A.length:=by omega
  have hx:=q1j hAo k
  have w1:=wS (n:=k)
  refine gg rfl ?_
  refine q0l (S:=fun x:Nat×List Nat×Nat=>([nat A,nat B,.ref 2 0 (A.length+B.length),q00 k,.int .u64 x.2.2,q00 x.1],[none,none,some (.row (x.2.1.map u32) 1),none,none,none],[0,0,0,0,0,0]))
   (C:=fun x=>x.1≤B.length∧x.2.1.length=A.length+B.length∧LOk x.2.1∧x.2.2<4294967296∧val x.2.1+4294967296^(k+x.1) *x.2.2=val r+4294967296^k*(dg A k*val (B.take x.1))∧∀j,k+x.1≤j→dg x.2.1 j=dg r j) (m:=fun x=>B.length-x.1) (0,r,0)
   ⟨Nat.zero_le _,hr,hro,by simp,by simp[val],fun j _=>rfl⟩ (by simp;omega) ?_ ?_
  ·exact q03 rfl ⟨q05 q0t _,trivial⟩ (by simp[nat,q00])
  rintro⟨i,r',c⟩ ⟨hi,hr',hro',hc,hinv',hz'⟩ N2 hN2
  simp only at hi hr' hro' hc hinv' hz'
  refine gg rfl ?_
  rw[List.length_map]
  refine q01 rfl (fun h3=>?_) (fun h3=>?_)
  ·rw[q06]at h3
   have hil:i<B.length:=by omega
   have hy:=q1j hBo i
   have hq:=q1j hro' (k+i)
   have hxy:=qaJ hx hy
   have wi:=wS (n:=i)
   have wki:IntKind.i64.wrap ((k:Int)+i)=((k+i:Nat):Int):=by rw[wrap64 (by omega) (by omega)];omega
   have e1:((dg A k*dg B i:Nat):Int)=(dg A k:Int) *(dg B i:Int):=by simp
   have e:IntKind.u64.wrap (IntKind.u64.wrap (IntKind.u64.wrap ((dg A k:Int) *(dg B i:Int))+(dg r' (k+i):Int))+(c:Int))=((c+(dg A k*dg B i+dg r' (k+i)):Nat):Int):=by
    rw[←e1,q0C (n:=dg A k*dg B i) (by omega)]
    simp only[q0U];omega
   refine gg rfl (q02 rfl rfl (q1q A k (by omega)) ?_)
   refine gg rfl (q02 rfl rfl (q1q B i (by omega)) ?_)
   refine gg rfl ?_
   rw[wki]
   refine q6N rfl rfl ⟨q3H (l:=r') hr'.symm,trivial⟩ (by rw[q42 (l:=r') hr'.symm];exact q1q r' (k+i) (by omega)) rfl ?_
   refine gg rfl ?_
   rw[e]
   refine q7b (c+(dg A k*dg B i+dg r' (k+i))) 4294967296 rfl rfl rfl rfl (by decide) ?_
   refine gg rfl ?_
   rw[q13,Nat.mod_mod]
   refine q0H (k+i) rfl rfl rfl rfl wki (by omega) ?_
   refine gg rfl (q20 r' (k+i) ((c+(dg A k*dg B i+dg r' (k+i)))%4294967296) rfl rfl (Nat.zero_add _) rfl rfl (Nat.zero_le _) (by omega) ?_)
   refine gg rfl (q2Z (c+(dg A k*dg B i+dg r' (k+i))) 4294967296 rfl rfl rfl rfl (by decide) (q0C (by omega)) ?_)
   refine gg rfl (q04 (hN2 (i+1,r'.set (k+i) ((c+(dg A k*dg B i+dg r' (k+i)))%4294967296),(c+(dg A k*dg B i+dg r' (k+i)))/4294967296) ⟨hil,by simp[hr'],hro'.set _ (by omega),by simp only;omega,?_,?_⟩ (by simp only;omega) (q03 rfl ⟨q05 q0t _,trivial⟩ (by simp[nat,q00,wi]))))
   ·simp only
    have hs:=qij (l:=r') (i:=k+i) (v:=(c+(dg A k*dg B i+dg r' (k+i)))%4294967296) (by omega)
    have hcar:=q4j (4294967296^(k+i)) (c+(dg A k*dg B i+dg r' (k+i)))
    rw[q0R,show k+(i+1)=(k+i)+1 from rfl,Nat.pow_succ,Nat.mul_add (dg A k),Nat.mul_add (4294967296^k)]
    rw[Nat.mul_add (4294967296^(k+i)) c,Nat.mul_add (4294967296^(k+i)) (dg A k*dg B i)]at hcar
    have e5:4294967296^k*(dg A k*(4294967296^i*dg B i))=4294967296^(k+i) *(dg A k*dg B i):=by
     rw[Nat.pow_add,Nat.mul_left_comm (dg A k),←Nat.mul_assoc]
    rw[e5]
    omega
   intro j hj
   simp only at hj⊢
   rw[q3c,if_neg (by omega)]
   exact hz' j (by omega)
  rw[q07]at h3
  obtain rfl:i=B.length:=by omega
  rw[List.take_length]at hinv'
  have wkb:IntKind.i64.wrap ((k:Int)+(B.map u32).length)=((k+B.length:Nat):Int):=by rw[List.length_map,wrap64 (by omega) (by omega)];omega
  have ec:IntKind.u32.wrap (c:Int)=(c:Int):=by rw[q13];omega
  refine gg rfl (q04 (gg rfl ?_))
  rw[ec]
  refine q0H (k+B.length) rfl rfl rfl rfl wkb (by omega) ?_
  refine gg rfl (q20 r' (k+B.length) c rfl rfl (Nat.zero_add _) rfl rfl (Nat.zero_le _) (by omega) ?_)
  refine gg rfl (q04 ?_)
  have hd0:dg r' (k+B.length)=0:=by rw[hz' _ (Nat.le_refl _)];exact hz _ (Nat.le_refl _)
  have hs:=qij (l:=r') (i:=k+B.length) (v:=c) (by omega)
  rw[hd0,Nat.mul_zero,Nat.add_zero]at hs
  refine hN (k+1,r'.set (k+B.length) c) ⟨hlt,by simp[hr'],hro'.set _ hc,?_,?_⟩ (by simp only;omega) (q03 rfl ⟨q05 q0t _,trivial⟩ (by simp[nat,q00,w1]))
  ·simp only
   rw[hs,hinv',hinv,q0R,Nat.add_mul,Nat.mul_assoc]
  intro j hj
  simp only at hj⊢
  rw[q3c,if_neg (by omega),hz' j (by omega)]
  exact hz j (by omega)
 rw[q07]at h2
 obtain rfl:k=A.length:=by omega
 rw[List.take_length]at hinv
 refine gg rfl (q04 (gg rfl ?_))
 have hp:=q21 r (by omega)
 rw[hinv]at hp
 refine q1T rfl rfl ⟨q3H (l:=r) hr.symm,trivial⟩ (by rw[q42 (l:=r) hr.symm];exact hp) fun z=>?_
 exact gg rfl (q08 rfl rfl rfl trivial rfl)
def q6r (n:Nat):Nat:=if n=0 then 0 else Nat.log2 n+1
theorem quG (n:Nat):n<2^q6r n:=by
 unfold q6r
 split
 ·omega
 rename_i h
 exact(Nat.log2_lt h).1 (Nat.lt_succ_self _)
theorem qBh {n:Nat}(h:n≠0):2^q6r n≤2*n:=by
 unfold q6r
 rw[if_neg h,Nat.pow_succ]
 have:=Nat.log2_self_le h
 omega
theorem qH8 {n L:Nat}(h1:n<2^L)(h2:2^L≤2*n):L=q6r n:=by
 have h0:n≠0:=by rintro rfl;have:=Nat.pow_pos (n:=L) (show 0<2 by decide);omega
 have a:=quG n
 have b:=qBh h0
 have c1:2^L<2^(q6r n+1):=by rw[Nat.pow_succ];omega
 have c2:2^q6r n<2^(L+1):=by rw[Nat.pow_succ];omega
 have d1:=(Nat.pow_lt_pow_iff_right (by decide)).1 c1
 have d2:=(Nat.pow_lt_pow_iff_right (by decide)).1 c2
 omega
theorem qDc {n:Nat}:q6r n=0↔n=0:=by unfold q6r;split<;>omega
theorem qsM (k:Nat):(4294967296:Nat)^k=2^(32*k):=by rw[Nat.pow_mul]
theorem qed (l:List Nat) [ho:LOk l](hl:l.length≤100000000):PU qzh [nat l]=some (.int .i64 (q6r (val l))):=by
 have hlen:=q1F ho
 refine q0g (fn:=qnz) rfl (q0a ?_)
 refine gg rfl (q02 rfl rfl (q21 l (by omega)) ?_)
 refine gg rfl ?_
 rw[List.length_map]
 refine q01 rfl (fun h1=>?_) (fun h1=>?_)
 ·rw[q1n]at h1
  have h0:val l=0:=qjw.1 (List.length_eq_zero_iff.1 (by omega))
  refine gg rfl (q08 rfl rfl rfl trivial ?_)
  rw[h0];rfl
 rw[q1Q]at h1
 have hv0:val l≠0:=fun h=>h1 (by rw[h];rfl)
 obtain⟨m,hm⟩:∃m,(q0f (val l)).length=m+1:=⟨(q0f (val l)).length-1,by omega⟩
 have hv:=q0o (val l)
 have hLo:=q0A (val l)
 have htop:=qsy hv0
 have hval:val l=val ((q0f (val l)).take m)+4294967296^m*dg (q0f (val l)) m:=by
  conv=>lhs;rw[←hv]
  rw[←q0R,List.take_of_length_le (by omega)]
 have htl:=q2Y (hLo.take m)
 rw[List.length_take,Nat.min_eq_left (by omega)]at htl
 rw[hm,Nat.add_sub_cancel]at htop
 have hdl:=q1j hLo m
 generalize q0f (val l)=A at*
 have w1:IntKind.i64.wrap (((m+1:Nat):Int)-1)=(m:Int):=by rw[wrap64 (by omega) (by omega)];omega
 have w2:IntKind.i64.wrap (32*(m:Int))=((32*m:Nat):Int):=by rw[wrap64 (by omega) (by omega)];omega
 rw[hm]
 refine gg rfl ?_
 rw[List.length_map,hm]
 refine q0i m rfl rfl w1 (q2B (by omega)) rfl ?_
 refine gg rfl ?_
 rw[w1,w2]
 have hz:∃j,dg A m/2^j=0:=⟨32,by omega⟩
 refine q0l (S:=fun j:Nat=>([q00 (32*m+j:Nat),.int .u32 (dg A m/2^j:Nat)],[none,none],[0,0])) (C:=fun j=>j≤32∧(j≠0→dg A m/2^(j-1)≠0)) (m:=fun j=>40-j) 0 ⟨by omega,fun h=>absurd rfl h⟩ (by omega) ?_ ?_
 ·exact q03 rfl trivial (by simp[q00,u32])
 rintro j ⟨hj,hprev⟩ N hN
 have hle:dg A m/2^j≤dg A m:=Nat.div_le_self _ _
 refine gg rfl (q01 rfl (fun h2=>?_) (fun h2=>?_))
 ·rw[q06]at h2
  have hne:dg A m/2^j≠0:=by omega
  have hj32:j<32:=by
   rcases Nat.lt_or_ge j 32 with g|g
   ·exact g
   obtain rfl:j=32:=by omega
   exact absurd (Nat.div_eq_of_lt (show dg A m<2^32 by omega)) hne
  have wj:IntKind.i64.wrap (32*(m:Int)+(j:Int)+1)=32*(m:Int)+((j:Int)+1):=by rw[wrap64 (by omega) (by omega)];omega
  refine gg rfl (q2Z (dg A m/2^j) 2 rfl rfl rfl rfl (by decide) (by rw[q13];omega) ?_)
  refine gg rfl (q04 (hN (j+1) ⟨by omega,fun _=>by simpa using hne⟩ (by omega) (q03 rfl trivial ?_)))
  rw[Nat.pow_succ,←Nat.div_div_eq_div_mul]
  simp[q00,wj]
 rw[q07]at h2
 have hz0:dg A m/2^j=0:=by
  have:((dg A m/2^j:Nat):Int)≤0:=h2
  exact Nat.le_zero.1 (by exact_mod_cast this)
 refine gg rfl (q04 (gg rfl (q08 rfl rfl rfl trivial ?_)))
 have hj0:j≠0:=by rintro rfl;rw[Nat.pow_zero,Nat.div_one]at hz0;exact htop hz0
 have h3:=hprev hj0
 have hlt:dg A m<2^j:=by
  rcases Nat.lt_or_ge (dg A m) (2^j)with g|g
  ·exact g
  have:=Nat.div_pos g (Nat.pow_pos (n:=j) (show 0<2 by decide));omega
 have hge:2^(j-1)≤dg A m:=by
  rcases Nat.lt_or_ge (dg A m) (2^(j-1))with g|g
  ·exact absurd (Nat.div_eq_of_lt g) h3
  exact g
 have hp:2^j=2*2^(j-1):=by rw[←Nat.pow_succ'];congr 1;omega
 rw[←qH8 (n:=val l) (L:=32*m+j)]
 ·rw[Nat.pow_add,←qsM,hval]
  generalize 4294967296^m=P at*
  have:P*(dg A m+1)≤P*2^j:=Nat.mul_le_mul_left _ hlt
  rw[Nat.mul_add]at this
  omega
 rw[Nat.pow_add,←qsM,hval,hp]
 generalize 4294967296^m=P at*
 have:P*2^(j-1)≤P*dg A m:=Nat.mul_le_mul_left _ hge
 rw[Nat.mul_left_comm]
 omega
set_option maxHeartbeats 1000000 in
theorem quH (a:List Nat)(n:Nat) [ha:LOk a](hla:a.length≤100000000)(hn:n≤3200000000):PU qwK [nat a,.int .i64 n]=some (nat (q0f (val a*2^n))):=by
 refine q0g (fn:=qlB) rfl (q0a ?_)
 refine gg rfl (q2Z n 32 rfl rfl rfl rfl (by decide) (wrap64 (by omega) (by omega)) ?_)
 refine gg rfl (q44 (n/32) rfl rfl rfl (by simp[q0M];omega) ?_)
 rw[q7r]
 refine gg rfl ?_
 refine q0l (S:=fun x:Nat×List Nat×Nat=>([nat a,.int .i64 n,.ref 2 0 x.2.1.length,.int .u64 x.2.2,q00 x.1],[none,none,some (.row (x.2.1.map u32) 1),none,none],[0,0,0,0,0]))
  (C:=fun x=>x.1≤a.length+1∧x.2.1.length=n/32+x.1∧LOk x.2.1∧x.2.2<4294967296∧(x.1=a.length+1→x.2.2=0)∧val x.2.1+4294967296^(n/32+x.1) *x.2.2=4294967296^(n/32) *(2^(n%32) *val (a.take x.1))) (m:=fun x=>a.length+1-x.1) (0,List.replicate (n/32) 0,0) ⟨Nat.zero_le _,by simp,q54 _,by simp,fun h=>rfl,by simp[val,qaH]⟩ (by simp;omega) ?_ ?_
 ·exact q03 rfl ⟨q05 q0t _,trivial⟩ (by simp[nat,q00])
 rintro⟨k,r,c⟩ ⟨hk,hr,hro,hc,hlast,hinv⟩ N hN
 simp only at hk hr hro hc hlast hinv
 have hx:=q1j ha k
 have w1:=wS (n:=k)
 refine gg rfl ?_
 rw[List.length_map]
 refine q01 rfl (fun h1=>?_) (fun h1=>?_)
 ·rw[q0E]at h1
  have hs:n%32≤31:=by omega
  have hpw:2^(n%32)≤2147483648:=by
   have:=Nat.pow_le_pow_right (show 0<2 by decide) hs
   omega
  have hmul:dg a k*2^(n%32)≤4294967295*2147483648:=Nat.mul_le_mul (by omega) hpw
  have hz:k=a.length→dg a k=0:=fun h=>q7l (by omega)
  generalize hT:dg a k*2^(n%32)+c=T
  have e:IntKind.u64.wrap (((dg a k*2^(n%32):Nat):Int)+(c:Int))=(T:Int):=by rw[q0U];omega
  have wc:IntKind.u64.wrap ((n%32:Nat):Int)=((n%32:Nat):Int):=q0C (by omega)
  refine gg rfl (q02 rfl rfl (q1q a k (by omega)) ?_)
  refine gg rfl (q7b n 32 rfl rfl rfl rfl (by decide) ?_)
  refine gg rfl ?_
  rw[wc]
  refine q6w (dg a k) (n%32) rfl rfl rfl rfl (by show n%32≤64;omega) (q0C (by omega)) ?_
  refine gg rfl ?_
  rw[e]
  refine q7b T 4294967296 rfl rfl rfl rfl (by decide) ?_
  refine gg rfl ?_
  rw[q13,Nat.mod_mod]
  refine q1b rfl rfl rfl rfl rfl rfl (by simp) (Nat.zero_le _) (by simp[q0M];omega) ?_
  refine gg rfl (q2Z T 4294967296 rfl rfl rfl rfl (by decide) (q0C (by omega)) ?_)
  refine gg rfl (q04 (hN (k+1,r++[T%4294967296],T/4294967296) ⟨by simp only;omega,by simp[hr];omega,hro.snoc (by omega),by simp only;omega,?_,?_⟩ (by simp only;omega) (q03 rfl ⟨?_,trivial⟩ ?_)))
  ·simp only
   intro hkk
   have:=hz (by omega)
   rw[this]at hT
   omega
  ·simp only
   rw[q5Y,hr,q0R,show n/32+(k+1)=(n/32+k)+1 from rfl,Nat.pow_succ,Nat.add_assoc,q4j,Nat.mul_add (2^(n%32)),Nat.mul_add (4294967296^(n/32)),←hinv,←hT,Nat.mul_add]
   have e5:4294967296^(n/32) *(2^(n%32) *(4294967296^k*dg a k))=4294967296^(n/32+k) *(dg a k*2^(n%32)):=by
    rw[Nat.pow_add];ac_rfl
   rw[e5];omega
  ·rw[List.all_append,q05 q0t];rfl
  simp[nat,q00,w1,u32]
 rw[q0F]at h1
 obtain rfl:k=a.length+1:=by omega
 have hc0:=hlast rfl
 subst hc0
 have hv:val r=val a*2^n:=by
  rw[List.take_of_length_le (by omega),Nat.mul_zero,Nat.add_zero]at hinv
  rw[hinv,qsM,←Nat.mul_assoc,←Nat.pow_add,Nat.div_add_mod,Nat.mul_comm]
 have hp:=q21 r (by omega)
 rw[hv]at hp
 refine gg rfl (q04 (gg rfl (q1T rfl rfl ⟨q3H (l:=r) rfl,trivial⟩ (by rw[q42 rfl];exact hp) fun z=>?_)))
 exact gg rfl (q08 rfl rfl rfl trivial rfl)
theorem qxx (a:List Nat) [ha:LOk a](hla:a.length≤100000000):PU qzi [nat a]=some (nat (q0f (val a/2))):=by
 refine q0g (fn:=qnW) rfl (q0a ?_)
 refine gg rfl ?_
 refine q0l (S:=fun x:Nat×List Nat=>([nat a,.ref 1 0 x.2.length,q00 x.1],[none,some (.row (x.2.map u32) 1),none],[0,0,0]))
  (C:=fun x=>x.1≤a.length∧x.2.length=x.1∧LOk x.2∧2*val x.2+dg a 0%2=val (a.take x.1)+4294967296^x.1*(dg a x.1%2)) (m:=fun x=>a.length-x.1) (0,[]) ⟨Nat.zero_le _,rfl,qpc,by simp[val]⟩ (by simp;omega) ?_ ?_
 ·exact q03 rfl ⟨rfl,trivial⟩ (by simp[nat,q00])
 rintro⟨k,r⟩ ⟨hk,hr,hro,hinv⟩ N hN
 simp only at hk hr hro hinv
 have hx:=q1j ha k
 have hy:=q1j ha (k+1)
 have w1:=wS (n:=k)
 refine gg rfl ?_
 rw[List.length_map]
 refine q01 rfl (fun h1=>?_) (fun h1=>?_)
 ·rw[q06]at h1
  have e1:IntKind.u64.wrap (((dg a (k+1)%2:Nat):Int) *2147483648)=((dg a (k+1)%2*2147483648:Nat):Int):=by rw[q0U];omega
  have e2:IntKind.u64.wrap (((dg a k/2:Nat):Int)+((dg a (k+1)%2*2147483648:Nat):Int))=((dg a k/2+dg a (k+1)%2*2147483648:Nat):Int):=by rw[q0U];omega
  have e3:IntKind.u32.wrap ((dg a k/2+dg a (k+1)%2*2147483648:Nat):Int)=((dg a k/2+dg a (k+1)%2*2147483648:Nat):Int):=by rw[q13];omega
  refine gg rfl (q02 rfl rfl (q1q a k (by omega)) ?_)
  refine gg rfl (q2Z (dg a k) 2 rfl rfl rfl rfl (by decide) (q0C (by omega)) ?_)
  refine gg rfl ?_
  rw[w1]
  refine q02 rfl rfl (q1q a (k+1) (by omega)) ?_
  refine gg rfl (q7b (dg a (k+1)) 2 rfl rfl rfl rfl (by decide) ?_)
  refine gg rfl ?_
  rw[e1,e2,e3]
  refine q1b rfl rfl rfl rfl rfl rfl (by simp) (Nat.zero_le _) (by simp[q0M];omega) ?_
  refine gg rfl (q04 (hN (k+1,r++[dg a k/2+dg a (k+1)%2*2147483648]) ⟨by simp only;omega,by simp[hr],hro.snoc (by omega),?_⟩ (by simp only;omega) (q03 rfl ⟨?_,trivial⟩ ?_)))
  ·simp only
   rw[q5Y,hr,q0R,Nat.pow_succ]
   have e4:2*(4294967296^k*(dg a k/2+dg a (k+1)%2*2147483648))+4294967296^k*(dg a k%2)=4294967296^k*dg a k+4294967296^k*4294967296*(dg a (k+1)%2):=by
    generalize 4294967296^k=P
    have:dg a k=2*(dg a k/2)+dg a k%2:=by omega
    conv=>rhs;rw[this]
    generalize dg a k/2=u
    generalize dg a k%2=v
    generalize dg a (k+1)%2=w
    grind
   omega
  ·rw[List.all_append,q05 q0t];rfl
  simp[nat,q00,w1,u32]
 rw[q07]at h1
 obtain rfl:k=a.length:=by omega
 have hd:dg a a.length=0:=q7l (Nat.le_refl _)
 rw[List.take_length,hd]at hinv
 have hv:val r=val a/2:=by simp at hinv;omega
 have hp:=q21 r (by omega)
 rw[hv]at hp
 refine gg rfl (q04 (gg rfl (q1T rfl rfl ⟨q3H (l:=r) rfl,trivial⟩ (by rw[q42 rfl];exact hp) fun z=>?_)))
 exact gg rfl (q08 rfl rfl rfl trivial rfl)
end Go.F

namespace Go.F
attribute [local irreducible] IntKind.wrap wpM
theorem qFH {q:List Nat}(hq:LOk q){k:Nat}(h:val q%2^(k+1)=0):dg q (k/32)+2^(k%32)<4294967296:=by
 have hd:=q1j hq (k/32)
 have hk:2^(k+1)=4294967296^(k/32) *2^(k%32+1):=by
  rw[qsM,←Nat.pow_add];congr 1;omega
 obtain⟨m,hm⟩:∃m,val q=2^(k+1) *m:=⟨val q/2^(k+1),by have:=Nat.div_add_mod (val q) (2^(k+1));omega⟩
 have e1:val q/4294967296^(k/32)=2^(k%32+1) *m:=by
  rw[hm,hk,Nat.mul_assoc,Nat.mul_div_cancel_left _ (Nat.pow_pos (by decide))]
 have e2:dg q (k/32)%2^(k%32+1)=0:=by
  rw[qzw hq,e1,show(4294967296:Nat)=2^(k%32+1) *2^(31-k%32)by rw[←Nat.pow_add,show k%32+1+(31-k%32)=32 by omega],Nat.mul_mod_mul_left,Nat.mul_mod_right]
 have hw:k%32+1≤32:=by omega
 have e3:(4294967296:Nat)=2^(k%32+1) *2^(31-k%32):=by rw[←Nat.pow_add,show k%32+1+(31-k%32)=32 by omega]
 have e4:2^(k%32+1)=2*2^(k%32):=by rw[Nat.pow_succ];omega
 have hpos:0<2^(k%32):=Nat.pow_pos (by decide)
 obtain⟨u,hu⟩:∃u,dg q (k/32)=2^(k%32+1) *u:=⟨dg q (k/32)/2^(k%32+1),by have:=Nat.div_add_mod (dg q (k/32)) (2^(k%32+1));omega⟩
 have hlt:u<2^(31-k%32):=by
  rw[hu,e3]at hd
  exact Nat.lt_of_mul_lt_mul_left hd
 have:2^(k%32+1) *(u+1)≤2^(k%32+1) *2^(31-k%32):=Nat.mul_le_mul_left _ hlt
 rw[←e3,Nat.mul_add,←hu,Nat.mul_one,e4]at this
 omega
theorem qxy {l:List Nat}(h:LOk l):q6r (val l)≤32*l.length:=qx0 (q2Y h)
theorem qDd {a b q r:Nat}(h:a=q*b+r)(hr:r<b):a/b=q∧a%b=r:=by
 subst h
 constructor
 ·rw[Nat.mul_comm,Nat.mul_add_div (by omega),Nat.div_eq_of_lt hr,Nat.add_zero]
 rw[Nat.mul_comm,Nat.mul_add_mod,Nat.mod_eq_of_lt hr]
set_option maxHeartbeats 4000000 in
theorem q6L (a b:List Nat) [ha:LOk a] [hb:LOk b](hla:a.length≤50000000)(hlb:b.length≤50000000):
 PU qu0 [nat a,nat b]=some (if val b=0 then .tup [nat [],nat [],.bool false]else .tup [nat (q0f (val a/val b)),nat (q0f (val a%val b)),.bool true]):=by
 have hla':=q1F ha
 have hba:=qxy ha
 have hbb:=qxy hb
 refine q0g (fn:=qh6) rfl (q0a ?_)
 refine gg rfl (q02 rfl rfl (qed b (by omega)) ?_)
 refine gg rfl (q01 rfl (fun h1=>?_) (fun h1=>?_))
 ·rw[q1n]at h1
  have h0:val b=0:=qDc.1 (by omega)
  refine gg rfl (q08 rfl rfl rfl trivial ?_)
  rw[if_pos h0];rfl
 rw[q1Q]at h1
 have hb0:val b≠0:=fun h=>h1 (by rw[h];rfl)
 rw[if_neg hb0]
 have hbits:=qed (q0f (val a)) (by omega)
 rw[q0o]at hbits
 refine gg rfl (q02 rfl rfl (q21 a (by omega)) ?_)
 refine gg rfl (q02 rfl rfl hbits (gg rfl (q02 rfl rfl (qed b (by omega)) ?_)))
 refine gg rfl ?_
 have w1:=ww (x:=(q6r (val a):Int)-(q6r (val b):Int))
 rw[w1]
 have ta:=quG (val a)
 have tb:=quG (val b)
 have tb2:=qBh hb0
 refine q01 rfl (fun h2=>?_) (fun h2=>?_)
 ·rw[q06]at h2
  have hlt:val a<val b:=by
   have:2^(q6r (val a)+1)≤2^q6r (val b):=Nat.pow_le_pow_right (by decide) (by omega)
   rw[Nat.pow_succ]at this
   omega
  refine gg rfl (q08 rfl rfl rfl trivial ?_)
  rw[Nat.div_eq_of_lt hlt,Nat.mod_eq_of_lt hlt];rfl
 rw[q07]at h2
 obtain⟨n,hn⟩:∃n:Nat,q6r (val a)=q6r (val b)+n:=⟨q6r (val a)-q6r (val b),by omega⟩
 have en:(q6r (val a):Int)-(q6r (val b):Int)=(n:Int):=by omega
 rw[en]
 have hstart:val a<val b*2^(n+1):=by
  calc val a<2^(q6r (val b)+n):=by rw[←hn];exact ta
   _=2^q6r (val b) *2^n:=Nat.pow_add _ _ _
   _≤2*val b*2^n:=Nat.mul_le_mul_right _ tb2
   _=val b*2^(n+1):=by rw[Nat.pow_succ];ac_rfl
 have w2:IntKind.i64.wrap (((n/32:Nat):Int)+1)=((n/32+1:Nat):Int):=by rw[wrap64 (by omega) (by omega)];omega
 refine gg rfl (q2Z n 32 rfl rfl rfl rfl (by decide) (wrap64 (by omega) (by omega)) ?_)
 refine gg rfl ?_
 rw[w2]
 refine q44 (n/32+1) rfl rfl rfl (by simp[q0M];omega) ?_
 rw[q7r]
 refine gg rfl (q02 rfl rfl (quH b n (by omega) (by omega)) ?_)
 refine gg rfl ?_
 have hin:val b*2^(n+1)/2=val b*2^n:=by
  rw[Nat.pow_succ,←Nat.mul_assoc,Nat.mul_div_cancel _ (by decide)]
 have hsz:∀j,j≤n+1→(q0f (val b*2^j/2)).length≤100000000:=by
  intro j hj
  refine q0q.2 ?_
  have h1:val b*2^j/2≤val b*2^j:=Nat.div_le_self _ _
  have h2:2^j≤2^(n+1):=Nat.pow_le_pow_right (by decide) hj
  obtain⟨K,hK⟩:∃K:Nat,K=100000000:=⟨_,rfl⟩
  rw[←hK,qsM]
  calc val b*2^j/2≤val b*2^j:=h1
   _≤val b*2^(n+1):=Nat.mul_le_mul_left _ h2
   _<2^q6r (val b) *2^(n+1):=Nat.mul_lt_mul_of_pos_right tb (Nat.pow_pos (by decide))
   _=2^(q6r (val b)+(n+1)):=(Nat.pow_add _ _ _).symm
   _≤2^(32*K):=Nat.pow_le_pow_right (by decide) (by omega)
 refine q0l (S:=fun x:Nat×List Nat×Nat=>([nat (q0f x.2.2),.ref 1 0 (n/32+1),nat (q0f (val b*2^x.1/2)),.int .i64 ((x.1:Int)-1)],[none,some (.row (x.2.1.map u32) 1),none,none],[0,0,0,0]))
  (C:=fun x=>x.1≤n+1∧x.2.1.length=n/32+1∧LOk x.2.1∧val x.2.1%2^x.1=0∧x.2.2<val b*2^x.1∧x.2.2≤val a∧val a=val x.2.1*val b+x.2.2) (m:=fun x=>x.1) (n+1,List.replicate (n/32+1) 0,val a) ⟨Nat.le_refl _,by simp,q54 _,by simp[qaH],hstart,Nat.le_refl _,by simp[qaH]⟩ (by simp only;omega) ?_ ?_
 ·refine q03 rfl ⟨q05 q0t _,trivial⟩ ?_
  simp only
  rw[hin]
  simp[nat]
 rintro⟨j,q,R⟩ ⟨hj,hql,hqo,hq0,hR,hRa,hinv⟩ N hN
 simp only at hj hql hqo hq0 hR hRa hinv
 refine gg rfl (q01 rfl (fun h3=>?_) (fun h3=>?_))
 ·rw[q0E]at h3
  obtain⟨k,rfl⟩:∃k,j=k+1:=⟨j-1,by omega⟩
  have ek:((k+1:Nat):Int)-1=(k:Int):=by omega
  have hpart:val b*2^(k+1)/2=val b*2^k:=by rw[Nat.pow_succ,←Nat.mul_assoc,Nat.mul_div_cancel _ (by decide)]
  have hszk:=hsz (k+1) hj
  rw[hpart]at hszk
  have hszR:(q0f R).length≤50000000:=by
   have:(q0f R).length≤a.length:=q0q.2 (Nat.lt_of_le_of_lt hRa (q2Y ha))
   omega
  have hsub:=qgz (q0f R) (q0f (val b*2^k)) (by omega) (by omega)
  rw[q0o,q0o]at hsub
  have hhalf:=qxx (q0f (val b*2^k)) (by omega)
  rw[q0o]at hhalf
  have wk:=ww (x:=(k:Int)-1)
  rw[ek,hpart]
  by_cases hlt:R<val b*2^k
  ·rw[if_pos hlt]at hsub
   refine gg rfl (q02 rfl rfl hsub (gg rfl (q0j rfl (gg rfl (q02 rfl rfl hhalf (gg rfl (q04 (hN (k,q,R) ⟨by simp only;omega,hql,hqo,?_,hlt,hRa,hinv⟩ (by simp only;omega) (q03 rfl ⟨q05 q0t _,trivial⟩ (by simp[nat,wk]))))))))))
   simp only
   exact Nat.mod_eq_zero_of_dvd (Nat.dvd_trans (Nat.pow_dvd_pow 2 (Nat.le_succ k)) (Nat.dvd_of_mod_eq_zero hq0))
  rw[if_neg hlt]at hsub
  have hfree:=qFH hqo hq0
  have hkl:k/32<q.length:=by omega
  have ew:IntKind.u32.wrap ((dg q (k/32):Int)+((1*2^(k%32):Nat):Int))=((dg q (k/32)+2^(k%32):Nat):Int):=by
   rw[Nat.one_mul,←Int.natCast_add,q13,Nat.mod_eq_of_lt hfree]
  have hpl:2^(k%32)<4294967296:=Nat.lt_of_le_of_lt (Nat.le_add_left _ _) hfree
  have wc:IntKind.u64.wrap ((k%32:Nat):Int)=((k%32:Nat):Int):=q0C (by omega)
  refine gg rfl (q02 rfl rfl hsub (gg rfl (q0d rfl (gg rfl (q2Z k 32 rfl rfl rfl rfl (by decide) (wrap64 (by omega) (by omega)) ?_)))))
  refine gg rfl (q2Z k 32 rfl rfl rfl rfl (by decide) (wrap64 (by omega) (by omega)) ?_)
  refine gg rfl (q0H (k/32) rfl rfl rfl rfl rfl (by omega) ?_)
  refine gg rfl (q4k q (k/32) rfl (Nat.zero_add _) rfl hkl (gg rfl (q7b k 32 rfl rfl rfl rfl (by decide) ?_)))
  refine gg rfl ?_
  rw[wc]
  refine q6w 1 (k%32) rfl rfl rfl rfl (by show k%32≤32;omega) (by rw[Nat.one_mul,q13,Nat.mod_eq_of_lt hpl]) ?_
  refine gg rfl ?_
  rw[ew]
  refine q0H (k/32) rfl rfl rfl rfl rfl (by omega) ?_
  refine gg rfl (q20 q (k/32) (dg q (k/32)+2^(k%32)) rfl rfl (Nat.zero_add _) rfl rfl (Nat.zero_le _) hkl (gg rfl (q02 rfl rfl hhalf (gg rfl (q04 ?_)))))
  have hs:=qij (l:=q) (i:=k/32) (v:=dg q (k/32)+2^(k%32)) hkl
  have hp2:4294967296^(k/32) *2^(k%32)=2^k:=by rw[qsM,←Nat.pow_add,Nat.div_add_mod]
  rw[Nat.mul_add,hp2]at hs
  have hs':val (q.set (k/32) (dg q (k/32)+2^(k%32)))=val q+2^k:=by omega
  refine hN (k,q.set (k/32) (dg q (k/32)+2^(k%32)),R-val b*2^k) ⟨by simp only;omega,by simp[hql],hqo.set _ hfree,?_,?_,by simp only;omega,?_⟩ (by simp only;omega) (q03 rfl ⟨q05 q0t _,trivial⟩ (by simp[nat,wk]))
  ·simp only
   rw[hs',Nat.add_mod_right]
   exact Nat.mod_eq_zero_of_dvd (Nat.dvd_trans (Nat.pow_dvd_pow 2 (Nat.le_succ k)) (Nat.dvd_of_mod_eq_zero hq0))
  ·simp only
   rw[Nat.pow_succ,←Nat.mul_assoc]at hR
   omega
  simp only
  rw[hs',Nat.add_mul,Nat.mul_comm (2^k)]
  omega
 rw[q0F]at h3
 obtain rfl:j=0:=by omega
 rw[Nat.pow_zero,Nat.mul_one]at hR
 obtain⟨e1,e2⟩:=qDd hinv hR
 have hp:=q21 q (by omega)
 rw[←e1]at hp
 rw[e2]
 refine gg rfl (q04 (gg rfl (q1T rfl rfl ⟨q3H (l:=q) hql.symm,trivial⟩ (by rw[q42 (l:=q) hql.symm];exact hp) fun z=>?_)))
 exact gg rfl (q08 rfl rfl rfl trivial rfl)
theorem qzQ (a b:List Nat) [ha:LOk a] [hb:LOk b](hla:a.length≤50000000)(hlb:b.length≤50000000):PU qCo [nat a,nat b]=some (nat (q0f (Nat.gcd (val a) (val b)))):=by
 refine q0g (fn:=qs9) rfl (q0a ?_)
 refine gg rfl (q02 rfl rfl (q21 a (by omega)) ?_)
 refine gg rfl (q02 rfl rfl (q21 b (by omega)) ?_)
 refine gg rfl ?_
 obtain⟨K,hK⟩:∃K:Nat,K=50000000:=⟨_,rfl⟩
 rw[←hK]at hla hlb
 have hA:=Nat.lt_of_lt_of_le (q2Y ha) (Nat.pow_le_pow_right (show 0<4294967296 by decide) hla)
 have hB:=Nat.lt_of_lt_of_le (q2Y hb) (Nat.pow_le_pow_right (show 0<4294967296 by decide) hlb)
 refine q0l (S:=fun x:Nat×Nat=>([nat (q0f x.1),nat (q0f x.2)],[none,none],[0,0])) (C:=fun x=>x.1<4294967296^K∧x.2<4294967296^K∧Nat.gcd x.1 x.2=Nat.gcd (val a) (val b)) (m:=fun x=>2*(bl x.1+bl x.2)+if x.1<x.2 then 1 else 0) (val a,val b) ⟨hA,hB,rfl⟩ ?_ ?_ ?_
 ·simp only
  have h1:=qx0 hA
  have h2:=qx0 hB
  split<;>omega
 ·exact q03 rfl trivial (by simp[nat])
 rintro⟨x,y⟩ ⟨hx,hy,hg⟩ N hN
 simp only at hx hy hg
 refine gg rfl ?_
 rw[List.length_map]
 refine q01 rfl (fun h1=>?_) (fun h1=>?_)
 ·rw[q06]at h1
  have hy0:y≠0:=q3b.1 (by simp only at h1;omega)
  have hp:=q6L (q0f x) (q0f y) (hK▸q0q.2 hx) (hK▸q0q.2 hy)
  rw[q0o,q0o,if_neg hy0]at hp
  refine gg rfl (q02 rfl rfl hp (gg rfl (q04 (hN (y,x%y) ⟨hy,Nat.lt_of_le_of_lt (Nat.mod_le _ _) hx,?_⟩ ?_ (q03 rfl trivial (by simp[nat]))))))
  ·simp only
   rw[←hg,Nat.gcd_comm x y,Nat.gcd_rec y x,Nat.gcd_comm]
  simp only
  have hm:=Nat.mod_lt x (show 0<y by omega)
  by_cases hxy:x<y
  ·rw[if_pos hxy,Nat.mod_eq_of_lt hxy,if_neg (by omega)];omega
  have:=qFh hy0 (Nat.le_of_not_lt hxy)
  rw[if_neg hxy,if_neg (by omega)];omega
 rw[q07]at h1
 have hy0:y=0:=by
  by_cases h:y=0
  ·exact h
  have:=q3b.2 h;simp only at h1;omega
 refine gg rfl (q04 (gg rfl (q08 rfl rfl rfl trivial ?_)))
 rw[←hg,hy0,Nat.gcd_zero_right];rfl
end Go.F

namespace Go.F
attribute [local irreducible] IntKind.wrap wpM
theorem q4B (neg:Bool)(l:List Nat){k:Nat} [h:Sz l k](hk:k≤500000000):PU qwJ [.bool neg,nat l]=some (encI (RI.v ⟨neg,l⟩)):=by
 have hl:=h.len
 have e:∀n:Nat,n=(q0f (val l)).length→ltb 0 (n:Int)=decide (val l≠0):=by
  rintro n rfl
  rw[q1J,decide_eq_decide]
  have:= @q3b (val l)
  omega
 refine q0g (fn:=qkv) rfl (q0a ?_)
 refine gg rfl (q02 rfl rfl (q21 l (by omega)) ?_)
 refine gg rfl (q09 rfl (fun h1=>?_) (fun h1=>?_))
 ·refine gg rfl (q08 rfl rfl rfl trivial ?_)
  subst h1
  refine qeJ _ ?_ ?_
  ·rw[List.length_map,e _ rfl]
   simp only[RI.v]
   rw[decide_eq_decide];simp;omega
  simp[RI.v]
 refine gg rfl (q08 rfl rfl rfl trivial ?_)
 subst h1
 refine qeJ _ ?_ ?_
 ·simp only[RI.v]
  rw[eq_comm,decide_eq_false_iff_not,if_neg (by decide)];omega
 simp[RI.v]
theorem qjG (n:Int)(h1: -9223372036854775808≤n)(h2:n≤9223372036854775807):PU qEU [.int .i64 n]=some (encI n):=by
 refine q0g (fn:=qvB) rfl (q0a ?_)
 refine gg rfl (q01 rfl (fun g1=>?_) (fun g1=>?_))
 ·rw[q06]at g1
  have e0:=ww (x:=n+1)
  have e1:IntKind.i64.wrap (0-(n+1))= -n-1:=by rw[wrap64 (by omega) (by omega)];omega
  have e:IntKind.u64.wrap (IntKind.u64.wrap (-n-1)+1)=((n.natAbs:Nat):Int):=by simp only[q0U];omega
  refine gg rfl ?_
  rw[e0,e1,e]
  refine q02 rfl rfl (qeM n.natAbs (by omega)) ?_
  exact gg rfl (q08 rfl rfl rfl trivial (qeJ n (by rw[decide_eq_true g1]) rfl))
 rw[q07]at g1
 have e:IntKind.u64.wrap n=((n.natAbs:Nat):Int):=by simp only[q0U];omega
 refine gg rfl ?_
 rw[e]
 refine q02 rfl rfl (qeM n.natAbs (by omega)) ?_
 exact gg rfl (q08 rfl rfl rfl trivial (qeJ n (by rw[eq_comm,decide_eq_false_iff_not];omega) rfl))
theorem qee (a:RI){k:Nat} [h:Sz a.mag k](hk:k≤500000000):PU qzd [a.enc]=some (encI a.v):=by
 refine q0g (fn:=qnt) rfl (q0a ?_)
 exact gg rfl (q02 rfl rfl (q4B a.neg a.mag hk) (gg rfl (q08 rfl rfl rfl trivial rfl)))
theorem qzR (a:RI){k:Nat} [h:Sz a.mag k](hk:k≤500000000):PU qCs [a.enc]=some (encI (-a.v)):=by
 refine q0g (fn:=qrW) rfl (q0a ?_)
 refine gg rfl (q02 rfl rfl (q4B (!a.neg) a.mag hk) (gg rfl (q08 rfl rfl rfl trivial ?_)))
 have:RI.v ⟨!a.neg,a.mag⟩= -a.v:=by unfold RI.v;cases a.neg<;>simp
 rw[this];rfl
theorem qzS (a b:RI){j k:Nat} [ha:Sz a.mag j] [hb:Sz b.mag k](hj:j≤100000000)(hk:k≤100000000):PU qCq [a.enc,b.enc]=some (encI (a.v+b.v)):=by
 have la:=ha.len
 have lb:=hb.len
 have nba:NB (val a.mag) j:=inferInstance
 have nbb:NB (val b.mag) k:=inferInstance
 have sAdd:Sz (q0f (val a.mag+val b.mag)) (j+k+1):=⟨q0A _,q0q.2 (qdX nba.lt nbb.lt)⟩
 have sSub:Sz (q0f (val a.mag-val b.mag)) j:=⟨q0A _,q0q.2 (q6c (Nat.sub_le _ _) nba.lt)⟩
 have sSub':Sz (q0f (val b.mag-val a.mag)) k:=⟨q0A _,q0q.2 (q6c (Nat.sub_le _ _) nbb.lt)⟩
 have s1:=qgz a.mag b.mag (by omega) (by omega)
 have s2:=qgz b.mag a.mag (by omega) (by omega)
 refine q0g (fn:=qs4) rfl (q0a ?_)
 refine gg rfl (q01 rfl (fun g1=>?_) (fun g1=>?_))
 ·refine gg rfl (q02 rfl rfl (qpM a.mag b.mag (by omega) (by omega)) ?_)
  refine gg rfl (q02 rfl rfl (q4B a.neg _ (by omega)) ?_)
  refine gg rfl (q08 rfl rfl rfl trivial ?_)
  have g:a.neg=b.neg:=by simpa using g1
  have:RI.v ⟨a.neg,q0f (val a.mag+val b.mag)⟩=a.v+b.v:=by
   unfold RI.v;simp only[q0o,←g];split<;>omega
  rw[this];rfl
 have g:b.neg=!a.neg:=by revert g1;cases a.neg<;>cases b.neg<;>simp
 refine gg rfl ?_
 by_cases hlt:val a.mag<val b.mag
 ·rw[if_pos hlt]at s1
  rw[if_neg (by omega)]at s2
  refine q02 rfl rfl s1 (gg rfl (q0j rfl (gg rfl (q02 rfl rfl s2 (gg rfl (q02 rfl rfl (q4B b.neg _ (by omega)) ?_))))))
  refine gg rfl (q08 rfl rfl rfl trivial ?_)
  have:RI.v ⟨b.neg,q0f (val b.mag-val a.mag)⟩=a.v+b.v:=by
   unfold RI.v;simp only[q0o,g];cases a.neg<;>simp<;>omega
  rw[this];rfl
 rw[if_neg hlt]at s1
 refine q02 rfl rfl s1 (gg rfl (q0d rfl (gg rfl (q02 rfl rfl (q4B a.neg _ (by omega)) ?_))))
 refine gg rfl (q08 rfl rfl rfl trivial ?_)
 have:RI.v ⟨a.neg,q0f (val a.mag-val b.mag)⟩=a.v+b.v:=by
  unfold RI.v;simp only[q0o,g];cases a.neg<;>simp<;>omega
 rw[this];rfl
theorem qpN (a b:RI){j k:Nat} [ha:Sz a.mag j] [hb:Sz b.mag k](hj:j≤100000000)(hk:k≤100000000):PU qCr [a.enc,b.enc]=some (encI (a.v*b.v)):=by
 have la:=ha.len
 have lb:=hb.len
 have nba:NB (val a.mag) j:=inferInstance
 have nbb:NB (val b.mag) k:=inferInstance
 have sM:Sz (q0f (val a.mag*val b.mag)) (j+k):=⟨q0A _,q0q.2 (q2l nba.lt nbb.lt)⟩
 refine q0g (fn:=qsb) rfl (q0a ?_)
 refine gg rfl (q02 rfl rfl (q4o a.mag b.mag (by omega) (by omega)) ?_)
 refine gg rfl (q02 rfl rfl (q4B _ _ (by omega)) ?_)
 refine gg rfl (q08 rfl rfl rfl trivial ?_)
 have:RI.v ⟨!(a.neg==b.neg),q0f (val a.mag*val b.mag)⟩=a.v*b.v:=by
  unfold RI.v;simp only[q0o];cases a.neg<;>cases b.neg<;>simp[Int.mul_neg,Int.neg_mul]
 rw[this];rfl
set_option maxHeartbeats 1000000 in
theorem quI (a:RI){k:Nat} [ha:Sz a.mag k](hk:k≤500000000):PU qwB [a.enc]=some (q9C a.v):=by
 refine q0g (fn:=qlb) rfl (q0a ?_)
 refine gg rfl (q02 rfl rfl (qee a hk) (gg rfl ?_))
 have hMo:LOk (q0f a.v.natAbs):=q0A _
 have hMv:val (q0f a.v.natAbs)=a.v.natAbs:=q0o _
 have hlen:(q0f a.v.natAbs).length≤2↔a.v.natAbs<18446744073709551616:=by rw[q0q]
 have hneg:(RI.of a.v).neg=decide (a.v<0):=rfl
 have hmag:(RI.of a.v).mag=q0f a.v.natAbs:=rfl
 rw[hmag]at*
 generalize q0f a.v.natAbs=M at*
 rw[List.length_map]
 refine q01 rfl (fun h1=>?_) (fun h1=>?_)
 ·rw[q06]at h1
  refine gg rfl (q08 rfl rfl rfl trivial ?_)
  rw[q9C,if_neg (by omega)]
 rw[q07]at h1
 have h2:=hlen.1 (by omega)
 refine gg rfl ?_
 rw[List.length_map]
 refine q0l (S:=fun x:Nat=>([.ptr 0 0 0,.int .u64 (val (M.drop x)),.int .i64 ((x:Int)-1)],[some (.row [.agg [.bool (decide (a.v<0)),nat M]] 2),none,none],[0,0,0])) (C:=fun x=>x≤M.length) (m:=fun x=>x) M.length (Nat.le_refl _) (by omega) ?_ ?_
 ·refine q03 rfl ⟨rfl,trivial⟩ ?_
  have:IntKind.i64.wrap ((M.length:Int)-1)=(M.length:Int)-1:=ww
  simp[nat,val,hneg,this]
 intro i hi N hN
 refine gg rfl (q01 rfl (fun g1=>?_) (fun g1=>?_))
 ·rw[q0E]at g1
  obtain⟨j,rfl⟩:∃j,i=j+1:=⟨i-1,by omega⟩
  have ej:((j+1:Nat):Int)-1=(j:Int):=by omega
  have hlt:j<M.length:=by omega
  have hx:=q1j hMo j
  have wj:=ww (x:=(j:Int)-1)
  have hd:=q2R M j
  have hb:val (M.drop j)<18446744073709551616:=by
   have:=q2L M j
   have h3:val (M.drop j)≤4294967296^j*val (M.drop j):=Nat.le_mul_of_pos_left _ (Nat.pow_pos (by decide))
   omega
  have e:IntKind.u64.wrap (IntKind.u64.wrap ((val (M.drop (j+1)):Int) *4294967296)+IntKind.u64.wrap (dg M j:Int))=(val (M.drop j):Int):=by simp only[q0U];omega
  rw[ej]
  refine gg rfl (q0i j rfl rfl rfl (q2B hlt) rfl (gg rfl ?_))
  rw[e]
  exact q04 (hN j (by omega) (by omega) (q03 rfl ⟨rfl,trivial⟩ (by simp[nat,wj])))
 rw[q0F]at g1
 obtain rfl:i=0:=by omega
 rw[List.drop_zero,hMv]at*
 clear hN
 refine gg rfl (q04 ?_)
 have e1:a.v<0→a.v.natAbs≤9223372036854775808→IntKind.i64.wrap (IntKind.i64.wrap (0-IntKind.i64.wrap (IntKind.u64.wrap ((a.v.natAbs:Int)-1)))-1)=a.v:=by
  intro h3 h4
  have e2:IntKind.u64.wrap ((a.v.natAbs:Int)-1)=(a.v.natAbs:Int)-1:=by rw[q0U];omega
  rw[e2,wrap64 (x:=(a.v.natAbs:Int)-1) (by omega) (by omega),wrap64 (x:=0-((a.v.natAbs:Int)-1)) (by omega) (by omega),wrap64 (by omega) (by omega)]
  omega
 have e2:¬a.v<0→a.v.natAbs≤9223372036854775807→IntKind.i64.wrap (a.v.natAbs:Int)=a.v:=by
  intro h3 h4
  rw[wrap64 (by omega) (by omega)];omega
 repeat' (first
  |refine goP 800 rfl rfl ?_
  |refine q0h rfl ?_|refine q0n rfl ?_|refine q09 rfl (fun _=>?_) (fun _=>?_)
  |refine q0d rfl ?_|refine q0j rfl ?_|refine q01 rfl (fun _=>?_) (fun _=>?_)
  |refine q0N rfl (fun _=>?_) (fun _=>?_)
  |refine q08 rfl rfl rfl trivial ?_)
 all_goals simp only[q1J,q27,decide_eq_true_eq,decide_eq_false_iff_not,Bool.not_eq_true',Bool.not_eq_false',Bool.not_eq_true,Bool.not_eq_false]at*
 all_goals unfold q9C
 all_goals first|(rw[e1 (by omega) (by omega),if_pos (by omega)]) |(rw[e2 (by omega) (by omega),if_pos (by omega)]) |(rw[if_neg (by omega)])
theorem q56 (neg:Bool)(n d:List Nat){j k:Nat} [hn:Sz n j] [hd:Sz d k](hj:j≤10000000)(hk:k≤10000000)(hd0:val d≠0):PU qtZ [.bool neg,nat n,nat d]=some (q7s (mkRat (RI.v ⟨neg,n⟩) (val d))):=by
 have ln:=hn.len
 have ld:=hd.len
 have nbn:NB (val n) j:=inferInstance
 have nbd:NB (val d) k:=inferInstance
 have hg0:Nat.gcd (val n) (val d)≠0:=by
  have:=Nat.gcd_pos_of_pos_right (val n) (show 0<val d by omega);omega
 have lg:(q0f (Nat.gcd (val n) (val d))).length≤k:=q0q.2 (q6c (Nat.gcd_le_right _ (by omega)) nbd.lt)
 have d1:=q6L n (q0f (Nat.gcd (val n) (val d))) (by omega) (by omega)
 have d2:=q6L d (q0f (Nat.gcd (val n) (val d))) (by omega) (by omega)
 rw[q0o,if_neg hg0]at d1 d2
 have s1:Sz (q0f (val n/Nat.gcd (val n) (val d))) j:=⟨q0A _,q0q.2 (q6c (Nat.div_le_self _ _) nbn.lt)⟩
 refine q0g (fn:=qhp) rfl (q0a ?_)
 refine gg rfl (q02 rfl rfl (qzQ n d (by omega) (by omega)) ?_)
 refine gg rfl (q02 rfl rfl d1 (gg rfl (q02 rfl rfl d2 (gg rfl (q02 rfl rfl (qee ⟨neg,q0f (val n/Nat.gcd (val n) (val d))⟩ (by omega)) ?_)))))
 refine gg rfl (q08 rfl rfl rfl trivial ?_)
 rw[qBj hd0,RI.v_abs]
 have e1:RI.v ⟨neg,q0f (val n/Nat.gcd (val n) (val d))⟩=if neg then-((val n/Nat.gcd (val n) (val d):Nat):Int)else(val n/Nat.gcd (val n) (val d):Nat):=by
  rw[RI.v,q0o]
 have hdv:=Nat.div_mul_cancel (Nat.gcd_dvd_left (val n) (val d))
 have e2:decide (RI.v ⟨neg,q0f (val n/Nat.gcd (val n) (val d))⟩<0)=decide (RI.v ⟨neg,n⟩<0):=by
  rw[e1,decide_eq_decide,RI.v]
  have hz:val n/Nat.gcd (val n) (val d)=0↔val n=0:=by
   constructor
   ·intro h;rw[h]at hdv;omega
   intro h;rw[h];simp
  generalize val n/Nat.gcd (val n) (val d)=x at*
  simp only
  split<;>omega
 have e3:(RI.v ⟨neg,q0f (val n/Nat.gcd (val n) (val d))⟩).natAbs=val n/Nat.gcd (val n) (val d):=by
  rw[RI.v_abs,q0o]
 show D.agg [.bool (decide (RI.v ⟨neg,q0f (val n/Nat.gcd (val n) (val d))⟩<0)),nat (q0f (RI.v ⟨neg,q0f (val n/Nat.gcd (val n) (val d))⟩).natAbs),nat (q0f (val d/Nat.gcd (val n) (val d)))]=_
 rw[e2,e3]
theorem qFI (z:Int):q7s (z:Rat)=.agg [.bool (decide (z<0)),nat (q0f z.natAbs),nat [1]]:=by
 unfold q7s RR.of RR.enc
 simp only[Rat.num_intCast,Rat.den_intCast]
 rfl
theorem qiw (n:Int)(h1: -9223372036854775808≤n)(h2:n≤9223372036854775807):PU qwD [.int .i64 n]=some (q7s (n:Rat)):=by
 refine q0g (fn:=qld) rfl (q0a ?_)
 refine gg rfl (q02 rfl rfl (qjG n h1 h2) (gg rfl (q02 rfl rfl (qeM 1 (by decide)) ?_)))
 refine gg rfl (q08 rfl rfl rfl trivial ?_)
 rw[qFI];rfl
theorem quJ (a:RR):a.v=0↔val a.mag=0∨val a.den=0:=by
 unfold RR.v
 by_cases h:val a.den=0
 ·rw[h,Rat.mkRat_zero];simp
 rw[Rat.mkRat_eq_zero h]
 have:=RI.v_abs a.num
 constructor
 ·intro h2;rw[h2]at this;left;exact this.symm
 rintro(h2|h2)
 ·have:a.num.v.natAbs=0:=by rw[this];exact h2
  exact Int.natAbs_eq_zero.1 this
 exact absurd h2 h
theorem qlW (a:RR){k:Nat} [h:SzR a k](hk:k≤100000000):PU qzb [a.enc]=some (.bool (decide (a.v=0))):=by
 have hm:=h.mag.len
 have hd:=h.den.len
 have e:∀n:Nat,((q0f n).map u32).length=0↔n=0:=fun n=>by rw[List.length_map,List.length_eq_zero_iff,qjw]
 refine q0g (fn:=qo8) rfl (q0a ?_)
 refine gg rfl (q02 rfl rfl (q21 a.mag (by omega)) ?_)
 refine gg rfl (q09 rfl (fun h1=>?_) (fun h1=>?_))
 ·rw[q1n]at h1
  refine gg rfl (q08 rfl rfl rfl trivial ?_)
  have:=(e (val a.mag)).1 (by omega)
  rw[decide_eq_true ((quJ a).2 (.inl this))]
 rw[q1Q]at h1
 refine gg rfl (q02 rfl rfl (q21 a.den (by omega)) ?_)
 refine gg rfl (q08 rfl rfl rfl trivial ?_)
 rw[q2e,D.bool.injEq,decide_eq_decide,quJ]
 have e1:=e (val a.mag)
 have e2:=e (val a.den)
 omega
theorem q3x (a:RR){k:Nat} [h:SzR a k](hk:k≤10000000):PU qzc [a.enc]=some (q7s a.v):=by
 refine q0g (fn:=qnr) rfl (q0a ?_)
 refine gg rfl (q02 rfl rfl (qlW a (by omega)) ?_)
 refine gg rfl (q01 rfl (fun h1=>?_) (fun h1=>?_))
 ·have h1:a.v=0:=by simpa using h1
  refine gg rfl (q02 rfl rfl (qiw 0 (by decide) (by decide)) ?_)
  refine gg rfl (q08 rfl rfl rfl trivial ?_)
  rw[h1];rfl
 have h1:a.v≠0:=by simpa using h1
 have hd:val a.den≠0:=fun h=>h1 ((quJ a).2 (.inr h))
 exact gg rfl (q02 rfl rfl (q56 a.neg a.mag a.den hk hk hd) (gg rfl (q08 rfl rfl rfl trivial rfl)))
theorem qDe (n d:Int)(h1: -9223372036854775808≤n)(h2:n≤9223372036854775807)(h3:0<d)(h4:d≤9223372036854775807):PU qEX [.int .i64 n,.int .i64 d]=some (.tup [q7s (mkRat n d.toNat),.bool true]):=by
 have nb:NB n.natAbs 2:=⟨by show n.natAbs<18446744073709551616;omega⟩
 have nb2:NB d.natAbs 2:=⟨by show d.natAbs<18446744073709551616;omega⟩
 have hneg:(RI.of d).neg=false:=by show decide (d<0)=false;simp;omega
 have hr:=q56 (RI.of n).neg (q0f n.natAbs) (q0f d.natAbs) (by decide) (by decide) (by rw[q0o];omega)
 have hv:RI.v ⟨(RI.of n).neg,q0f n.natAbs⟩=n:=RI.of_v n
 rw[hv,q0o]at hr
 have hdn:d.natAbs=d.toNat:=by omega
 rw[←hdn]
 refine q0g (fn:=qvH) rfl (q0a ?_)
 refine gg rfl (q01 rfl (fun g=>?_) (fun g=>?_))
 ·rw[q1n]at g;omega
 refine gg rfl (q02 rfl rfl (qjG n (by omega) (by omega)) ?_)
 refine gg rfl (q02 rfl rfl (qjG d (by omega) (by omega)) ?_)
 refine gg rfl ?_
 have e:(!((RI.of n).neg==(RI.of d).neg))=(RI.of n).neg:=by rw[hneg];cases(RI.of n).neg<;>rfl
 rw[e]
 exact q02 rfl rfl hr (gg rfl (q08 rfl rfl rfl trivial rfl))
theorem qzT (a:RR){k:Nat} [h:SzR a k](hk:k≤1000000):PU qCn [a.enc]=some (q7s (-a.v)):=by
 have hq:QB a.v (k+1):=inferInstance
 have sn:Sz (RI.of a.v.num).mag (k+1):=⟨q0A _,q0q.2 hq.num⟩
 have hn:=qzR (RI.of a.v.num) (by omega)
 rw[RI.of_v]at hn
 refine q0g (fn:=qs2) rfl (q0a ?_)
 refine gg rfl (q02 rfl rfl (q3x a (by omega)) ?_)
 refine gg rfl (q02 rfl rfl hn (gg rfl (q08 rfl rfl rfl trivial ?_)))
 unfold q7s RR.of
 rw[Rat.neg_num,Rat.neg_den];rfl
theorem qgA (a b:RR){j k:Nat} [ha:SzR a j] [hb:SzR b k](hj:j≤1000000)(hk:k≤1000000):PU qCm [a.enc,b.enc]=some (q7s (a.v+b.v)):=by
 have qa:QB a.v (j+1):=inferInstance
 have qb:QB b.v (k+1):=inferInstance
 generalize hx:a.v=x at*
 generalize hy:b.v=y at*
 have sx:Sz (RI.of x.num).mag (j+1):=⟨q0A _,q0q.2 qa.num⟩
 have sy:Sz (RI.of y.num).mag (k+1):=⟨q0A _,q0q.2 qb.num⟩
 have sdx:Sz (q0f x.den) (j+1):=⟨q0A _,q0q.2 qa.den⟩
 have sdy:Sz (q0f y.den) (k+1):=⟨q0A _,q0q.2 qb.den⟩
 have sdx':Sz (RI.mag ⟨false,q0f x.den⟩) (j+1):=sdx
 have sdy':Sz (RI.mag ⟨false,q0f y.den⟩) (k+1):=sdy
 have n1:(x.num*(y.den:Int)).natAbs<4294967296^((j+1)+(k+1)):=by rw[Int.natAbs_mul];exact q2l qa.num qb.den
 have n2:(y.num*(x.den:Int)).natAbs<4294967296^((k+1)+(j+1)):=by rw[Int.natAbs_mul];exact q2l qb.num qa.den
 have n3:=q6c (Int.natAbs_add_le (x.num*(y.den:Int)) (y.num*(x.den:Int))) (qdX n1 n2)
 have s1:Sz (RI.of (x.num*(y.den:Int))).mag _:=⟨q0A _,q0q.2 n1⟩
 have s2:Sz (RI.of (y.num*(x.den:Int))).mag _:=⟨q0A _,q0q.2 n2⟩
 have s3:Sz (q0f (x.num*(y.den:Int)+y.num*(x.den:Int)).natAbs) _:=⟨q0A _,q0q.2 n3⟩
 have s4:Sz (q0f (x.den*y.den)) _:=⟨q0A _,q0q.2 (q2l qa.den qb.den)⟩
 have m1:=qpN (RI.of x.num) ⟨false,q0f y.den⟩ (by omega) (by omega)
 have m2:=qpN (RI.of y.num) ⟨false,q0f x.den⟩ (by omega) (by omega)
 rw[qFQ,RI.of_v,q0o]at m1 m2
 have a1:=qzS (RI.of (x.num*(y.den:Int))) (RI.of (y.num*(x.den:Int))) (by omega) (by omega)
 rw[RI.of_v,RI.of_v]at a1
 have ld1:=sdx.len
 have ld2:=sdy.len
 have m3:=q4o (q0f x.den) (q0f y.den) (by omega) (by omega)
 rw[q0o,q0o]at m3
 have r1:=q56 (RI.of (x.num*(y.den:Int)+y.num*(x.den:Int))).neg (q0f (x.num*(y.den:Int)+y.num*(x.den:Int)).natAbs) (q0f (x.den*y.den)) (by omega) (by omega) (by rw[q0o];exact Nat.mul_ne_zero x.den_nz y.den_nz)
 have hv:RI.v ⟨(RI.of (x.num*(y.den:Int)+y.num*(x.den:Int))).neg,q0f (x.num*(y.den:Int)+y.num*(x.den:Int)).natAbs⟩=x.num*(y.den:Int)+y.num*(x.den:Int):=RI.of_v _
 rw[hv,q0o,←Rat.mkRat_add_mkRat _ _ x.den_nz y.den_nz,Rat.mkRat_self,Rat.mkRat_self]at r1
 have na:=q3x a (by omega)
 have nb:=q3x b (by omega)
 rw[hx]at na
 rw[hy]at nb
 refine q0g (fn:=qrS) rfl (q0a ?_)
 refine gg rfl (q02 rfl rfl na (gg rfl (q02 rfl rfl nb (gg rfl (q02 rfl rfl m1 (gg rfl (q02 rfl rfl m2 (gg rfl (q02 rfl rfl a1 (gg rfl (q02 rfl rfl m3 (gg rfl (q02 rfl rfl r1 ?_)))))))))))))
 exact gg rfl (q08 rfl rfl rfl trivial rfl)
theorem qbr (a b:RR){j k:Nat} [ha:SzR a j] [hb:SzR b k](hj:j≤100000)(hk:k≤100000):PU qCg [a.enc,b.enc]=some (q7s (a.v-b.v)):=by
 have h1:=qgA a (RR.of (-b.v)) (by omega) (by omega)
 rw[RR.of_v,←Rat.sub_eq_add_neg]at h1
 refine q0g (fn:=qrK) rfl (q0a ?_)
 refine gg rfl (q02 rfl rfl (qzT b (by omega)) ?_)
 exact gg rfl (q02 rfl rfl h1 (gg rfl (q08 rfl rfl rfl trivial rfl)))
theorem qFJ (x y:Int):RI.v ⟨!((RI.of x).neg==(RI.of y).neg),q0f (x.natAbs*y.natAbs)⟩=x*y:=by
 have h1:=RI.of_v x
 have h2:=RI.of_v y
 conv=>rhs;rw[←h1,←h2]
 have e1:x.natAbs=val (RI.of x).mag:=(q0o _).symm
 have e2:y.natAbs=val (RI.of y).mag:=(q0o _).symm
 rw[e1,e2]
 unfold RI.v
 simp only[q0o]
 cases(RI.of x).neg<;>cases(RI.of y).neg<;>simp[Int.mul_neg,Int.neg_mul]
theorem qbs (a b:RR){j k:Nat} [ha:SzR a j] [hb:SzR b k](hj:j≤1000000)(hk:k≤1000000):PU qCj [a.enc,b.enc]=some (q7s (a.v*b.v)):=by
 have qa:QB a.v (j+1):=inferInstance
 have qb:QB b.v (k+1):=inferInstance
 generalize hx:a.v=x at*
 generalize hy:b.v=y at*
 have sx:Sz (q0f x.num.natAbs) (j+1):=⟨q0A _,q0q.2 qa.num⟩
 have sy:Sz (q0f y.num.natAbs) (k+1):=⟨q0A _,q0q.2 qb.num⟩
 have sdx:Sz (q0f x.den) (j+1):=⟨q0A _,q0q.2 qa.den⟩
 have sdy:Sz (q0f y.den) (k+1):=⟨q0A _,q0q.2 qb.den⟩
 have l1:=sx.len
 have l2:=sy.len
 have l3:=sdx.len
 have l4:=sdy.len
 have s3:Sz (q0f (x.num.natAbs*y.num.natAbs)) _:=⟨q0A _,q0q.2 (q2l qa.num qb.num)⟩
 have s4:Sz (q0f (x.den*y.den)) _:=⟨q0A _,q0q.2 (q2l qa.den qb.den)⟩
 have m1:=q4o (q0f x.num.natAbs) (q0f y.num.natAbs) (by omega) (by omega)
 have m2:=q4o (q0f x.den) (q0f y.den) (by omega) (by omega)
 rw[q0o,q0o]at m1 m2
 have r1:=q56 (!((RI.of x.num).neg==(RI.of y.num).neg)) (q0f (x.num.natAbs*y.num.natAbs)) (q0f (x.den*y.den)) (by omega) (by omega) (by rw[q0o];exact Nat.mul_ne_zero x.den_nz y.den_nz)
 rw[qFJ,q0o,←Rat.mkRat_mul_mkRat,Rat.mkRat_self,Rat.mkRat_self]at r1
 have na:=q3x a (by omega)
 have nb:=q3x b (by omega)
 rw[hx]at na
 rw[hy]at nb
 refine q0g (fn:=qrO) rfl (q0a ?_)
 exact gg rfl (q02 rfl rfl na (gg rfl (q02 rfl rfl nb (gg rfl (q02 rfl rfl m1 (gg rfl (q02 rfl rfl m2 (gg rfl (q02 rfl rfl r1 (gg rfl (q08 rfl rfl rfl trivial rfl)))))))))))
theorem qzU (a b:RR){j k:Nat} [ha:SzR a j] [hb:SzR b k](hj:j≤1000000)(hk:k≤1000000):PU qCe [a.enc,b.enc]=some (if b.v=0 then .tup [RR.enc ⟨false,[],[]⟩,.bool false]else .tup [q7s (a.v/b.v),.bool true]):=by
 have qa:QB a.v (j+1):=inferInstance
 have qb:QB b.v (k+1):=inferInstance
 have na:=q3x a (by omega)
 have nb:=q3x b (by omega)
 have nz:=qlW b (by omega)
 generalize hx:a.v=x at*
 generalize hy:b.v=y at*
 have sx:Sz (q0f x.num.natAbs) (j+1):=⟨q0A _,q0q.2 qa.num⟩
 have sy:Sz (q0f y.num.natAbs) (k+1):=⟨q0A _,q0q.2 qb.num⟩
 have sdx:Sz (q0f x.den) (j+1):=⟨q0A _,q0q.2 qa.den⟩
 have sdy:Sz (q0f y.den) (k+1):=⟨q0A _,q0q.2 qb.den⟩
 have l1:=sx.len
 have l2:=sy.len
 have l3:=sdx.len
 have l4:=sdy.len
 refine q0g (fn:=qsd) rfl (q0a ?_)
 refine gg rfl (q02 rfl rfl nz (gg rfl (q01 rfl (fun g=>?_) (fun g=>?_))))
 ·have g:y=0:=by simpa using g
  refine gg rfl (q08 rfl rfl rfl trivial ?_)
  rw[if_pos g];rfl
 have g:y≠0:=by simpa using g
 have hn0:y.num.natAbs≠0:=by
  intro h
  exact g (Rat.num_eq_zero.1 (Int.natAbs_eq_zero.1 h))
 have s3:Sz (q0f (x.num.natAbs*y.den)) _:=⟨q0A _,q0q.2 (q2l qa.num qb.den)⟩
 have s4:Sz (q0f (x.den*y.num.natAbs)) _:=⟨q0A _,q0q.2 (q2l qa.den qb.num)⟩
 have m1:=q4o (q0f x.num.natAbs) (q0f y.den) (by omega) (by omega)
 have m2:=q4o (q0f x.den) (q0f y.num.natAbs) (by omega) (by omega)
 rw[q0o,q0o]at m1 m2
 have r1:=q56 (!((RI.of x.num).neg==(RI.of y.num).neg)) (q0f (x.num.natAbs*y.den)) (q0f (x.den*y.num.natAbs)) (by omega) (by omega) (by rw[q0o];exact Nat.mul_ne_zero x.den_nz hn0)
 have hdm:=qFR (RR.of x) (RR.of y) (by rw[RR.of_den];exact x.den_nz) (by rw[RR.of_den];exact y.den_nz) (by show val (q0f y.num.natAbs)≠0;rw[q0o];exact hn0)
 rw[RR.of_v,RR.of_v,RR.of_den,RR.of_den]at hdm
 have em:val (RR.of x).mag=x.num.natAbs:=q0o _
 have em':val (RR.of y).mag=y.num.natAbs:=q0o _
 rw[em,em']at hdm
 have hdm':mkRat (RI.v ⟨!((RI.of x.num).neg==(RI.of y.num).neg),q0f (x.num.natAbs*y.den)⟩) (x.den*y.num.natAbs)=x/y:=hdm
 rw[q0o,hdm']at r1
 refine gg rfl (q02 rfl rfl na (gg rfl (q02 rfl rfl nb (gg rfl (q02 rfl rfl m1 (gg rfl (q02 rfl rfl m2 (gg rfl (q02 rfl rfl r1 (gg rfl (q08 rfl rfl rfl trivial ?_)))))))))))
 rw[if_neg g];rfl
theorem quK (a:RR){k:Nat} [h:SzR a k](hk:k≤1000000):PU qwC [a.enc]=some (encI (q1l a.v)):=by
 have qa:QB a.v (k+1):=inferInstance
 have na:=q3x a (by omega)
 generalize hx:a.v=x at*
 have sx:Sz (q0f x.num.natAbs) (k+1):=⟨q0A _,q0q.2 qa.num⟩
 have sdx:Sz (q0f x.den) (k+1):=⟨q0A _,q0q.2 qa.den⟩
 have l1:=sx.len
 have l3:=sdx.len
 have l2':(q0f 2).length≤1:=q0q.2 (by decide)
 have n2:2*x.num.natAbs<4294967296^(1+(k+1)):=q2l (by decide) qa.num
 have n4:2*x.den<4294967296^(1+(k+1)):=q2l (by decide) qa.den
 have n3:=qdX n2 qa.den
 have l4:=q0q.2 n2
 have l5:=q0q.2 n3
 have l6:=q0q.2 n4
 have m1:=q4o (q0f 2) (q0f x.num.natAbs) (by omega) (by omega)
 have m2:=q4o (q0f 2) (q0f x.den) (by omega) (by omega)
 rw[q0o,q0o]at m1 m2
 have a1:=qpM (q0f (2*x.num.natAbs)) (q0f x.den) (by omega) (by omega)
 rw[q0o,q0o]at a1
 have hdn:=x.den_nz
 have d1:=q6L (q0f (2*x.num.natAbs+x.den)) (q0f (2*x.den)) (by omega) (by omega)
 rw[q0o,q0o,if_neg (by omega)]at d1
 have s5:Sz (RI.mag ⟨(RR.of x).neg,q0f ((2*x.num.natAbs+x.den)/(2*x.den))⟩) _:=⟨q0A _,q0q.2 (q6c (Nat.div_le_self _ _) n3)⟩
 have nrm:=qee ⟨(RR.of x).neg,q0f ((2*x.num.natAbs+x.den)/(2*x.den))⟩ (by omega)
 have hrm:=qxD (RR.of x) (by rw[RR.of_den];exact hdn)
 have em:val (RR.of x).mag=x.num.natAbs:=q0o _
 rw[em,RR.of_den,RR.of_v,←Nat.two_mul,←Nat.two_mul]at hrm
 rw[hrm]at nrm
 refine q0g (fn:=qkr) rfl (q0a ?_)
 refine gg rfl (q02 rfl rfl na (gg rfl (q02 rfl rfl (qeM 2 (by decide)) ?_)))
 exact gg rfl (q02 rfl rfl m1 (gg rfl (q02 rfl rfl a1 (gg rfl (q02 rfl rfl m2 (gg rfl (q02 rfl rfl d1 (gg rfl (q02 rfl rfl nrm (gg rfl (q08 rfl rfl rfl trivial rfl)))))))))))
end Go.F

namespace Go.F
attribute [local irreducible] IntKind.wrap wpM
theorem qxE (n:Nat)(hn:n<17592186044416):PU qz8 [.int .i64 n]=some (.int .i64 (isq n)):=by
 refine q0g (fn:=qnU) rfl (q0a ?_)
 refine gg rfl (q0l (S:=fun q:Nat×Nat=>([q00 n,q00 q.1,q00 q.2],[none,none,none],[0,0,0])) (C:=fun q=>q.1≤q.2∧q.2≤4194304∧q.1*q.1≤n∧n<(q.2+1) *(q.2+1)) (m:=fun q=>q.2-q.1) (0,4194304) ⟨by omega,by omega,by simp,by omega⟩ (by omega) ?_ ?_)
 ·exact q03 rfl trivial (by simp[q00])
 rintro⟨lo,hi⟩ ⟨h1,h2,h3,h4⟩ N hN
 simp only at h1 h2 h3 h4
 refine gg rfl (q01 rfl (fun g1=>?_) (fun g1=>?_))
 ·rw[q06]at g1
  have w1:IntKind.i64.wrap ((lo:Int)+hi)=((lo+hi:Nat):Int):=ww
  have w2:IntKind.i64.wrap (((lo+hi:Nat):Int)+1)=((lo+hi+1:Nat):Int):=ww
  have w3:IntKind.i64.wrap ((((lo+hi+1:Nat):Int)).tdiv 2)=(((lo+hi+1)/2:Nat):Int):=by
   rw[Int.tdiv_eq_ediv_of_nonneg (by omega),wrap64 (by omega) (by omega)];omega
  refine gg rfl ?_
  rw[w1,w2]
  refine qem rfl rfl (by decide) ?_
  rw[w3]
  generalize hm:(lo+hi+1)/2=m
  have hml:lo<m:=by omega
  have hmh:m≤hi:=by omega
  have hmm:m*m≤4194304*4194304:=Nat.mul_le_mul (by omega) (by omega)
  have w4:IntKind.i64.wrap ((m:Int) *m)=((m*m:Nat):Int):=by rw[←Int.natCast_mul];exact wrap64 (by omega) (by omega)
  refine gg rfl ?_
  rw[w4]
  refine q01 rfl (fun g2=>?_) (fun g2=>?_)
  ·rw[q0E]at g2
   exact gg rfl (q04 (hN (m,hi) ⟨by simp only;omega,by simp only;omega,by simp only;omega,h4⟩ (by simp only;omega) (q03 rfl trivial (by simp[q00]))))
  rw[q0F]at g2
  have w5:IntKind.i64.wrap ((m:Int)-1)=((m-1:Nat):Int):=by rw[wrap64 (by omega) (by omega)];omega
  refine gg rfl (q04 (hN (lo,m-1) ⟨by simp only;omega,by simp only;omega,h3,?_⟩ (by simp only;omega) (q03 rfl trivial (by simp[q00,w5]))))
  simp only
  rw[show m-1+1=m by omega]
  omega
 rw[q07]at g1
 obtain rfl:lo=hi:=by omega
 refine gg rfl (q04 (gg rfl (q08 rfl rfl rfl trivial ?_)))
 rw[qnb (n:=n) (r:=lo) (by omega) h3 h4]
theorem qiB (a b:Int)(ha0: -1099511627776≤a)(ha:a≤1099511627776)(hb:0<b)(hb':b≤1099511627776):PU qwz [.int .i64 a,.int .i64 b]=some (.int .i64 (q1u a b)):=by
 have w3:=ww (x:=2*b)
 refine q0g (fn:=ql9) rfl (q0a ?_)
 refine gg rfl (q01 rfl (fun h=>?_) (fun h=>?_))
 ·rw[q06]at h
  have w1:=ww (x:= -2*a)
  have w2:=ww (x:= -2*a+b)
  refine gg rfl (qem rfl rfl (by rw[w3];omega) ?_)
  refine gg rfl (q08 rfl rfl rfl trivial ?_)
  have hd:(-2*a+b).tdiv (2*b)=(-2*a+b)/(2*b):=Int.tdiv_eq_ediv_of_nonneg (by omega)
  have hq:(-2*a+b)/(2*b)≤ -2*a+b:=Int.ediv_le_self _ (by omega)
  have hq0:0≤(-2*a+b)/(2*b):=Int.ediv_nonneg (by omega) (by omega)
  rw[w1,w2,w3,hd,wrap64 (x:=(-2*a+b)/(2*b)) (by omega) (by omega),wrap64 (by omega) (by omega),q1u,if_pos (by omega),show 2* -a+b= -2*a+b by omega]
  simp
 rw[q07]at h
 have w1:=ww (x:=2*a)
 have w2:=ww (x:=2*a+b)
 refine gg rfl (qem rfl rfl (by rw[w3];omega) ?_)
 refine gg rfl (q08 rfl rfl rfl trivial ?_)
 have hd:(2*a+b).tdiv (2*b)=(2*a+b)/(2*b):=Int.tdiv_eq_ediv_of_nonneg (by omega)
 have hq:(2*a+b)/(2*b)≤2*a+b:=Int.ediv_le_self _ (by omega)
 have hq0:0≤(2*a+b)/(2*b):=Int.ediv_nonneg (by omega) (by omega)
 rw[w1,w2,w3,hd,wrap64 (by omega) (by omega),q1u,if_neg (by omega)]
theorem q5t (p:List Spot):PU qia [q0k p]=some (.int .i64 (sg1 (q0Z p))):=by
 refine q0g (fn:=q9d) rfl (q0a ?_)
 repeat' (first
  |refine goP 800 rfl rfl ?_
  |refine q0h rfl ?_|refine q0n rfl ?_|refine q09 rfl (fun _=>?_) (fun _=>?_)
  |refine q0d rfl ?_|refine q0j rfl ?_|refine q01 rfl (fun _=>?_) (fun _=>?_)
  |refine q0N rfl (fun _=>?_) (fun _=>?_)
  |refine q08 rfl rfl rfl trivial ?_
  |refine q02 rfl rfl (qiA p) ?_)
 ·rename_i h;rw[q06]at h;simp[sg1,h]
 rename_i h;rw[q07]at h;simp[sg1];omega
set_option maxHeartbeats 1000000 in
theorem quV (a b:Spot)(w sg:Int)(hne:a≠b)(ha:q0v a 1048576=true)(hb:q0v b 1048576=true)(hw:0≤w∧w≤500)(hs:sg=1∨sg= -1):
 PU qwq [a.enc,b.enc,.int .i64 w,.int .i64 sg]=some (q2N a b (sg*w)).enc:=by
 have hsq:=qA9 ha hb
 have hsp:=qb0 hne
 have hir:=qeC (n:=sqd a b) (by omega) hsp
 have hil:=qEd (n:=sqd a b) (by omega)
 have hse:=q6f a b
 rw[q1B]at ha hb
 have bx:Bd (b.x-a.x) 2097152:=⟨by omega⟩
 have by':Bd (b.y-a.y) 2097152:=⟨by omega⟩
 have c1:IntKind.i64.wrap (b.x-a.x)=b.x-a.x:=q0V (by decide)
 have c2:IntKind.i64.wrap (b.y-a.y)=b.y-a.y:=q0V (by decide)
 have bw:Bd w 500:=⟨by omega⟩
 have hsh:q2N a b (sg*w)=⟨sg*q1u (w*(b.y-a.y)) (isq (sqd a b)),-sg*q1u (w*(b.x-a.x)) (isq (sqd a b))⟩:=by
  unfold q2N
  have hp:(0:Int)<(isq (sqd a b):Int):=by omega
  rw[qiD hs _ hp,qiD (sg:= -sg) (by omega) _ hp,Int.mul_assoc,←Int.neg_mul,Int.mul_assoc]
 rw[hsh]
 generalize hdx:b.x-a.x=dx at*
 generalize hdy:b.y-a.y=dy at*
 generalize sqd a b=n at*
 have c4:IntKind.i64.wrap (dx*dx)=dx*dx:=q0V (by decide)
 have c5:IntKind.i64.wrap (dy*dy)=dy*dy:=q0V (by decide)
 have c6:IntKind.i64.wrap (dx*dx+dy*dy)=(n:Int):=by rw[hse];exact q0V (by decide)
 have c7:IntKind.i64.wrap (w*dy)=w*dy:=q0V (by decide)
 have c8:IntKind.i64.wrap (w*dx)=w*dx:=q0V (by decide)
 have b7:Bd (w*dy) _:=qvn
 have b8:Bd (w*dx) _:=qvn
 have l7:=b7.le
 have l8:=b8.le
 refine q0g (fn:=qkG) rfl (q0a ?_)
 refine gg rfl ?_
 rw[hdx,hdy,c1,c2,c4,c5,c6]
 refine q02 rfl rfl (qxE n hsq) (gg rfl ?_)
 rw[c7]
 refine q02 rfl rfl (qiB (w*dy) _ (by omega) (by omega) (by omega) (by omega)) ?_
 refine gg rfl ?_
 rw[c8]
 refine q02 rfl rfl (qiB (w*dx) _ (by omega) (by omega) (by omega) (by omega)) ?_
 refine gg rfl ?_
 have r1:=q8O (b:=(isq n:Int)) (m:=4294967296) (a:=w*dy) (by omega) (by omega) (by omega)
 have r2:=q8O (b:=(isq n:Int)) (m:=4294967296) (a:=w*dx) (by omega) (by omega) (by omega)
 have d1:IntKind.i64.wrap (sg*q1u (w*dy) (isq n))=sg*q1u (w*dy) (isq n):=by rcases hs with rfl|rfl<;>exact wrap64 (by omega) (by omega)
 have d2:IntKind.i64.wrap (0-sg)= -sg:=by rcases hs with rfl|rfl<;>exact wrap64 (by omega) (by omega)
 have d3:IntKind.i64.wrap (-sg*q1u (w*dx) (isq n))= -sg*q1u (w*dx) (isq n):=by rcases hs with rfl|rfl<;>exact wrap64 (by omega) (by omega)
 rw[d1,d2,d3]
 exact gg rfl (q08 rfl rfl rfl trivial rfl)
structure RSeg where
 a:Spot
 b:Spot
 w:Int
 s:Spot
def RSeg.enc (g:RSeg):D:=.agg [.int .i64 g.a.x,.int .i64 g.a.y,.int .i64 g.b.x,.int .i64 g.b.y,.int .i64 g.w,.int .i64 g.s.x,.int .i64 g.s.y]
theorem qgB (s:RSeg):plain 4 s.enc=true:=rfl
theorem qFS (s:RSeg):dat 4 s.enc=true:=rfl
def quW (e:Edge)(w sg:Int)(j:Nat):RSeg:=⟨pt e.line j,pt e.line (j+1),w,q2N (pt e.line j) (pt e.line (j+1)) (sg*w)⟩
def q4p (e:Edge)(w sg:Int)(m:Nat):List RSeg:=(List.range m).map (quW e w sg)
def q3J (l:List Edge)(ws:List Int)(sg:Int):Nat→List RSeg
 |0=>[]
 |k+1=>q3J l ws sg k++q4p (eg l k) (wd ws k) sg ((eg l k).line.length-1)
theorem qgC (l:List Edge)(ws:List Int)(sg:Int):∀k,k≤l.length→(q3J l ws sg k).length=(q0m (l.take k)).length:=by
 intro k
 induction k with
 |zero=>intro _;simp[q3J,q0m]
 |succ k ih=>
  intro hk
  rw[q3J,q3y (by omega),List.length_append,List.length_append,ih (by omega)]
  simp[q4p]
def q58 (l:List Edge)(ws:List Int):List RSeg×Int:=
 if q0J l=0 then
  if ws.length=l.length then
   if ws.any q2j then([],3)else(q3J l ws (sg1 (q0Z (q0m l))) l.length,0)
  else([],1)
 else([],q0J l)
def qHc (r:List RSeg×Int):D:=.tup [.lst (r.1.map RSeg.enc),.int .i64 r.2]
end Go.F

namespace Go.F
attribute [local irreducible] IntKind.wrap wpM
theorem qrn (e:Edge)(w sg:Int)(j:Nat):(q4p e w sg (j+1)).map RSeg.enc=(q4p e w sg j).map RSeg.enc++[(quW e w sg j).enc]:=by
 unfold q4p;rw[List.range_succ,List.map_append,List.map_append];rfl
set_option maxHeartbeats 4000000 in
theorem qmG (l:List Edge)(ws:List Int):PU qoI [edges l,ints ws]=some (qHc (q58 l ws)):=by
 have hpoly:=q8C l
 refine q0g (fn:=qdb) rfl (q0a ?_)
 refine gg rfl (q02 rfl rfl (q7u l) (gg rfl (q01 rfl (fun g=>?_) (fun g=>?_))))
 ·rw[q0u]at g
  refine gg rfl (q08 rfl rfl rfl trivial ?_)
  rw[q58,if_neg g];rfl
 rw[q0z]at g
 have hc:q0J l=0:=g
 rw[q8p,if_pos hc]at hpoly
 rw[q58,if_pos hc]
 obtain⟨h2,h16,hfe,_,hchk⟩:=q11 hc
 obtain⟨v3,v40,vok,vin,vs⟩:=q16 hchk
 have hlines:=q2p hc
 refine gg rfl ?_
 rw[List.length_map,List.length_map]
 refine q01 rfl (fun g=>?_) (fun g=>?_)
 ·rw[q0u]at g
  refine gg rfl (q08 rfl rfl rfl trivial ?_)
  rw[if_neg (by omega)];rfl
 rw[q0z]at g
 have hwl:ws.length=l.length:=by omega
 rw[if_pos hwl]
 refine gg rfl (q0l (S:=fun k:Nat=>([edges l,ints ws,q00 k],[none,none,none],[0,0,0])) (C:=fun k=>k≤ws.length∧∀i (hi:i<ws.length),i<k→q2j ws[i]=false) (m:=fun k=>ws.length-k) 0 ⟨Nat.zero_le _,fun i hi h=>by omega⟩ (by omega) ?_ ?_)
 ·exact q03 rfl trivial (by simp[edges,ints,q00])
 intro k ⟨hk,hall⟩ N hN
 refine gg rfl (q01 rfl (fun g1=>?_) (fun g1=>?_))
 ·rw[q06,List.length_map]at g1
  have hlt:k<ws.length:=by omega
  have w1:=wS (n:=k)
  have yes:q2j ws[k]=false→∀{t:q0x} {h:q0e} {z:Frz} {nx:Nat},(q12 0 [(0,0),(1,0),(7,0)] t h z nx fun _ _ kp=>kp=([edges l,ints ws,q00 ((k+1:Nat):Int)],[none,none,none],[0,0,0]))→N t h z nx:=by
   intro hb t h z nx hst
   refine hN (k+1) ⟨by omega,fun i hi hik=>?_⟩ (by omega) hst
   by_cases hik':i<k
   ·exact hall i hi hik'
   obtain rfl:i=k:=by omega
   exact hb
  have no:q2j ws[k]=true→ws.any q2j=true:=fun hb=>List.any_eq_true.2 ⟨_,List.getElem_mem hlt,hb⟩
  clear hN
  refine gg rfl (q0i k rfl rfl rfl (q1A hlt) rfl (gg rfl (q09 rfl (fun e1=>?_) (fun e1=>?_))))
  ·rw[q06]at e1
   repeat' (first
    |refine goP 800 rfl rfl ?_
    |refine q0h rfl ?_|refine q0n rfl ?_|refine q09 rfl (fun _=>?_) (fun _=>?_)
    |refine q0d rfl ?_|refine q0j rfl ?_|refine q01 rfl (fun _=>?_) (fun _=>?_)
    |refine q0N rfl (fun _=>?_) (fun _=>?_)
    |refine q08 rfl rfl rfl trivial ?_)
   refine q04 (gg rfl (q08 rfl rfl rfl trivial ?_))
   rw[if_pos (no (by simp[q2j,e1]))];rfl
  rw[q07]at e1
  refine gg rfl (q0i k rfl rfl rfl (q1A hlt) rfl (gg rfl (q01 rfl (fun e2=>?_) (fun e2=>?_))))
  ·rw[q06]at e2
   refine gg rfl (q04 (gg rfl (q08 rfl rfl rfl trivial ?_)))
   rw[if_pos (no (by simp[q2j,e2]))];rfl
  rw[q07]at e2
  exact gg rfl (q04 (yes (by simp[q2j];omega) (q03 rfl trivial (by simp[edges,ints,q00,w1]))))
 rw[q07,List.length_map]at g1
 clear hN
 have hgood:ws.any q2j=false:=by
  rw[List.any_eq_false]
  intro x hx
  obtain⟨i,hi,rfl⟩:=List.getElem_of_mem hx
  rw[hall i hi (by omega)];decide
 rw[if_neg (by rw[hgood];decide)]
 have hwd:∀i,i<ws.length→0≤wd ws i∧wd ws i≤500:=fun i hi=>by
  have:wd ws i=ws[i]:=by simp[wd,hi]
  rw[this];exact qgJ (hall i hi (by omega))
 refine gg rfl (q04 (gg rfl (q02 rfl rfl hpoly (gg rfl (q02 rfl rfl (q5t (q0m l)) (gg rfl ?_))))))
 have hsg:=qG0 (q0Z (q0m l))
 have hlen:=qgC l ws (sg1 (q0Z (q0m l)))
 have hvl:∀k,(q0m (l.take k)).length≤40:=fun k=>Nat.le_trans (qdP k) v40
 generalize sg1 (q0Z (q0m l))=sg at*
 refine q0l (S:=fun k:Nat=>([edges l,ints ws,.int .i64 sg,.ref 3 0 (q3J l ws sg k).length,q00 k],[none,none,none,some (.row ((q3J l ws sg k).map RSeg.enc) 7),none],[0,0,0,0,0])) (C:=fun k=>k≤l.length) (m:=fun k=>l.length-k) 0 (Nat.zero_le _) (by omega) ?_ ?_
 ·exact q03 rfl ⟨rfl,trivial⟩ (by simp[edges,ints,q00,q3J])
 intro k hk N hN
 refine gg rfl (q01 rfl (fun g1=>?_) (fun g1=>?_))
 ·rw[q06,List.length_map]at g1
  have hlt:k<l.length:=by omega
  have w1:=wS (n:=k)
  have hcl:=q2P (q1a hfe hlt)
  obtain⟨l2,l40,_⟩:=q2k hcl
  have hk0:=hlen k (by omega)
  have hk1:=hlen (k+1) (by omega)
  have:=hvl k
  have hv1:=hvl (k+1)
  have hww:=hwd k (by omega)
  refine gg rfl (q0l (S:=fun j:Nat=>([edges l,ints ws,.int .i64 sg,.ref 3 0 ((q3J l ws sg k).length+j),q00 k,q00 j],[none,none,none,some (.row ((q3J l ws sg k++q4p (eg l k) (wd ws k) sg j).map RSeg.enc) 7),none,none],[0,0,0,0,0,0])) (C:=fun j=>j≤(eg l k).line.length-1) (m:=fun j=>(eg l k).line.length-j) 0 (Nat.zero_le _) (by omega) ?_ ?_)
  ·exact q03 rfl ⟨q05 qgB _,trivial⟩ (by simp[edges,ints,q00,q4p])
  intro j hj N2 hN2
  have wj:=wS (n:=j)
  refine gg rfl (q0i k rfl rfl rfl (q1K hlt) rfl (gg rfl (q01 rfl (fun e1=>?_) (fun e1=>?_))))
  ·rw[q06,List.length_map,wj]at e1
   have hjl:j+1<(eg l k).line.length:=by omega
   have hstep:=qrn (eg l k) (wd ws k) sg j
   refine gg rfl (q0i k rfl rfl rfl (q1K hlt) rfl (gg rfl (q0i j rfl rfl rfl (q0Q (by omega)) rfl ?_)))
   refine gg rfl (q0i k rfl rfl rfl (q1K hlt) rfl (gg rfl (q0i (j+1) rfl rfl wj (q0Q hjl) rfl (gg rfl (q0i k rfl rfl rfl (qna (by omega)) rfl ?_)))))
   refine gg rfl (q0i k rfl rfl rfl (qna (by omega)) rfl ?_)
   refine gg rfl (q02 rfl rfl (quV (pt (eg l k).line j) (pt (eg l k).line (j+1)) (wd ws k) sg (qBm hcl hjl) (qbw hcl (by omega)) (qbw hcl hjl) hww hsg) ?_)
   refine gg rfl (q1b rfl rfl rfl rfl rfl rfl (by simp[q4p]) (Nat.zero_le _) (by simp[q0M,q4p];omega) ?_)
   refine gg rfl (q04 (hN2 (j+1) (by omega) (by omega) (q03 rfl ⟨?_,trivial⟩ ?_)))
   ·rw[List.all_append,q05 qgB];rfl
   rw[List.map_append,List.map_append,hstep,←List.append_assoc]
   simp[edges,ints,q00,wj,RSeg.enc,quW]
   omega
  rw[q07,List.length_map,wj]at e1
  clear hN2
  obtain rfl:j=(eg l k).line.length-1:=by omega
  refine gg rfl (q04 (gg rfl (q04 (hN (k+1) hlt (by omega) (q03 rfl ⟨q05 qgB _,trivial⟩ ?_)))))
  simp[edges,ints,q00,w1,q3J,q4p]
 rw[q07,List.length_map]at g1
 obtain rfl:k=l.length:=by omega
 refine gg rfl (q04 (gg rfl (q08 rfl rfl rfl ⟨q2s (by simp) (q0W qFS _),trivial⟩ ?_)))
 rw[q2t (by simp)];rfl
theorem qHd {l:List Edge}(hc:q0J l=0)(ws:List Int)(sg:Int):∀k,k≤l.length→
 q3J l ws sg k=(List.range (q0m (l.take k)).length).map (fun i=>⟨pt (q0m l) i,pt (q0m l) ((i+1)%(q0m l).length),wd (q1X l ws l.length) i,q3n (q0m l) (q1X l ws l.length) sg i⟩):=by
 intro k
 induction k with
 |zero=>intro _;simp[q3J,q0m]
 |succ k ih=>
  intro hk
  rw[q3J,ih (by omega),q3y (by omega),List.length_append,List.range_add,List.map_append,List.map_map]
  congr 1
  unfold q4p
  rw[List.length_dropLast]
  refine List.map_congr_left fun j hj=>?_
  have hj:j+1<(eg l k).line.length:=by have:=List.mem_range.1 hj;omega
  simp only[Function.comp,q3n,qaR (by omega:k<l.length) hj,qpT hc (by omega:k<l.length) hj,qmY l ws l.length (Nat.le_refl _) k (by omega) j hj]
  rfl
theorem qpQ {l:List Edge}(hc:q0J l=0)(ws:List Int)(sg:Int):
 q3J l ws sg l.length=(List.range (q0m l).length).map (fun i=>⟨pt (q0m l) i,pt (q0m l) ((i+1)%(q0m l).length),wd (q1X l ws l.length) i,q3n (q0m l) (q1X l ws l.length) sg i⟩):=by
 have:=qHd hc ws sg l.length (Nat.le_refl _)
 rw[List.take_length]at this
 exact this
theorem qxF (l:List Edge)(ws:List Int):q1c l ws=((q58 l ws).1.map RSeg.s,(q58 l ws).2):=by
 unfold q1c q58
 split
 ·rename_i hc
  obtain⟨_,_,_,_,hchk⟩:=q11 hc
  split
  ·split
   ·rfl
   rw[qv0 (qpt hchk),qpQ hc,List.map_map];rfl
  rfl
 rfl
end Go.F

namespace Go.F
attribute [local irreducible] IntKind.wrap wpM
theorem qix (x:Int)(hx1: -9223372036854775808≤x)(hx2:x≤9223372036854775807):PU qwI [.int .i64 x]=some (q7s (x:Rat)):=by
 have r1:=qDe x 1 hx1 hx2 (by decide) (by decide)
 rw[qit]at r1
 refine q0g (fn:=qlj) rfl (q0a ?_)
 exact gg rfl (q02 rfl rfl r1 (gg rfl (q08 rfl rfl rfl trivial rfl)))
theorem qDf (x y:Int)(hx1: -9223372036854775808≤x)(hx2:x≤9223372036854775807)(hy1: -9223372036854775808≤y)(hy2:y≤9223372036854775807):PU qER [.int .i64 x,.int .i64 y]=some (qjF ⟨x,y⟩):=by
 refine q0g (fn:=qvv) rfl (q0a ?_)
 exact gg rfl (q02 rfl rfl (qix x hx1 hx2) (gg rfl (q02 rfl rfl (qix y hy1 hy2) (gg rfl (q08 rfl rfl rfl trivial rfl)))))
theorem qzV (a b:RP){j k:Nat} [ha:SzP a j] [hb:SzP b k](hj:j≤100000)(hk:k≤100000):PU qCk [a.enc,b.enc]=some (qjF (qcB a.v b.v)):=by
 refine q0g (fn:=qrQ) rfl (q0a ?_)
 refine gg rfl (q02 rfl rfl (qgA a.x b.x (by omega) (by omega)) ?_)
 refine gg rfl (q02 rfl rfl (qgA a.y b.y (by omega) (by omega)) ?_)
 exact gg rfl (q08 rfl rfl rfl trivial rfl)
theorem q8B (a b:RP){j k:Nat} [ha:SzP a j] [hb:SzP b k](hj:j≤100000)(hk:k≤100000):PU qCf [a.enc,b.enc]=some (qjF (q15 a.v b.v)):=by
 refine q0g (fn:=qsf) rfl (q0a ?_)
 refine gg rfl (q02 rfl rfl (qbr a.x b.x (by omega) (by omega)) ?_)
 refine gg rfl (q02 rfl rfl (qbr a.y b.y (by omega) (by omega)) ?_)
 exact gg rfl (q08 rfl rfl rfl trivial rfl)
theorem quL (a:RP)(r:RR){j k:Nat} [ha:SzP a j] [hb:SzR r k](hj:j≤100000)(hk:k≤100000):PU qwH [a.enc,r.enc]=some (qjF (q3r a.v r.v)):=by
 refine q0g (fn:=qlh) rfl (q0a ?_)
 refine gg rfl (q02 rfl rfl (qbs a.x r (by omega) (by omega)) ?_)
 refine gg rfl (q02 rfl rfl (qbs a.y r (by omega) (by omega)) ?_)
 exact gg rfl (q08 rfl rfl rfl trivial rfl)
theorem qiy (a b:RP){j k:Nat} [ha:SzP a j] [hb:SzP b k](hj:j≤10000)(hk:k≤10000):PU qwA [a.enc,b.enc]=some (q7s (q1C a.v b.v)):=by
 have s:=qbr (RR.of (a.x.v*b.y.v)) (RR.of (a.y.v*b.x.v)) (by omega) (by omega)
 rw[RR.of_v,RR.of_v]at s
 refine q0g (fn:=qlv) rfl (q0a ?_)
 refine gg rfl (q02 rfl rfl (qbs a.x b.y (by omega) (by omega)) ?_)
 refine gg rfl (q02 rfl rfl (qbs a.y b.x (by omega) (by omega)) ?_)
 exact gg rfl (q02 rfl rfl s (gg rfl (q08 rfl rfl rfl trivial rfl)))
theorem qDg (a b:RP)(t:RR){i j k:Nat} [ha:SzP a i] [hb:SzP b j] [ht:SzR t k](hi:i≤10000)(hj:j≤10000)(hk:k≤10000):PU qEQ [a.enc,b.enc,t.enc]=some (qjF (onP a.v b.v t.v)):=by
 have s:=quL (RP.of (q15 b.v a.v)) t (by omega) (by omega)
 rw[RP.of_v]at s
 have d:=qzV a (RP.of (q3r (q15 b.v a.v) t.v)) (by omega) (by omega)
 rw[RP.of_v]at d
 refine q0g (fn:=qvt) rfl (q0a ?_)
 refine gg rfl (q02 rfl rfl (q8B b a (by omega) (by omega)) ?_)
 exact gg rfl (q02 rfl rfl s (gg rfl (q02 rfl rfl d (gg rfl (q08 rfl rfl rfl trivial rfl)))))
theorem qxz (a b c d:RP){k:Nat} [ha:SzP a k] [hb:SzP b k] [hc:SzP c k] [hd:SzP d k](hk:k≤100):PU qz6 [a.enc,b.enc,c.enc,d.enc]=some (qBg (q3w a.v b.v c.v d.v)):=by
 have c1:=qiy (RP.of (q15 c.v a.v)) (RP.of (q15 d.v c.v)) (by omega) (by omega)
 have c2:=qiy (RP.of (q15 b.v a.v)) (RP.of (q15 d.v c.v)) (by omega) (by omega)
 rw[RP.of_v,RP.of_v]at c1 c2
 have dv:=qzU (RR.of (q1C (q15 c.v a.v) (q15 d.v c.v))) (RR.of (q1C (q15 b.v a.v) (q15 d.v c.v))) (by omega) (by omega)
 rw[RR.of_v,RR.of_v]at dv
 refine q0g (fn:=qo4) rfl (q0a ?_)
 refine gg rfl (q02 rfl rfl (q8B c a (by omega) (by omega)) ?_)
 refine gg rfl (q02 rfl rfl (q8B d c (by omega) (by omega)) ?_)
 refine gg rfl (q02 rfl rfl c1 (gg rfl (q02 rfl rfl (q8B b a (by omega) (by omega)) ?_)))
 refine gg rfl (q02 rfl rfl (q8B d c (by omega) (by omega)) ?_)
 refine gg rfl (q02 rfl rfl c2 (gg rfl ?_))
 by_cases h0:q1C (q15 b.v a.v) (q15 d.v c.v)=0
 ·rw[if_pos h0]at dv
  refine q02 rfl rfl dv (gg rfl (q0d rfl (gg rfl (q08 rfl rfl rfl trivial ?_))))
  rw[q3w,if_pos h0];rfl
 rw[if_neg h0]at dv
 have o:=qDg a b (RR.of (q1C (q15 c.v a.v) (q15 d.v c.v)/q1C (q15 b.v a.v) (q15 d.v c.v))) (by omega) (by omega) (by omega)
 rw[RR.of_v]at o
 refine q02 rfl rfl dv (gg rfl (q0j rfl (gg rfl (q02 rfl rfl o (gg rfl (q08 rfl rfl rfl trivial ?_))))))
 rw[q3w,if_neg h0];rfl
theorem q3f (a b:Spot) [MidS a] [MidS b]:PU qCd [a.enc,b.enc]=some (q1N a b).enc:=by
 have c1:IntKind.i64.wrap (a.x+b.x)=a.x+b.x:=q0V (by decide)
 have c2:IntKind.i64.wrap (a.y+b.y)=a.y+b.y:=q0V (by decide)
 refine q0g (fn:=qrY) rfl (q0a ?_)
 refine gg rfl ?_
 rw[c1,c2]
 exact q08 rfl rfl rfl trivial rfl
theorem qeN (s:Spot) [h:MidS s]:PU qEP [s.enc]=some (qjF (qp s)):=by
 have h1:=h.bx
 have h2:=h.byy
 refine q0g (fn:=qvy) rfl (q0a ?_)
 refine gg rfl (q02 rfl rfl (qDf s.x s.y (by omega) (by omega) (by omega) (by omega)) ?_)
 exact gg rfl (q08 rfl rfl rfl trivial rfl)
def qcm (q:Rat)(v m:Int):Bool:=decide (-m≤q1l (q-(v:Rat))∧q1l (q-(v:Rat))≤m)
theorem qlX (r:RR)(v m:Int){k:Nat} [h:SzR r k](hk:k≤10000)(hv1: -1099511627776≤v)(hv2:v≤1099511627776)(hm0:0≤m)(hm:m≤10000):
 PU qoO [r.enc,.int .i64 v,.int .i64 m]=some (if qcm r.v v m then .tup [.int .i64 (v+q1l (r.v-(v:Rat))),.bool true]else .tup [.int .i64 0,.bool false]):=by
 have qv:QB (v:Rat) 2:=qzX (by omega) (by omega)
 have sb:=qbr r (RR.of (v:Rat)) (by omega) (by omega)
 rw[RR.of_v]at sb
 have rd:=quK (RR.of (r.v-(v:Rat))) (by omega)
 rw[RR.of_v]at rd
 have s1:=quI (RI.of (q1l (r.v-(v:Rat)))) (by omega)
 rw[RI.of_v]at s1
 have wm:IntKind.i64.wrap (0-m)= -m:=by rw[wrap64 (by omega) (by omega)];omega
 have hb:qcm r.v v m=decide (-m≤q1l (r.v-(v:Rat))∧q1l (r.v-(v:Rat))≤m):=rfl
 rw[hb]
 refine q0g (fn:=qnS) rfl (q0a ?_)
 refine gg rfl (q02 rfl rfl (qiw v (by omega) (by omega)) ?_)
 refine gg rfl (q02 rfl rfl sb (gg rfl (q02 rfl rfl rd (gg rfl ?_))))
 generalize q1l (r.v-(v:Rat))=z at*
 by_cases hz: -9223372036854775808≤z∧z≤9223372036854775807
 ·rw[q9C,if_pos hz]at s1
  refine q02 rfl rfl s1 (gg rfl (q0n rfl (gg rfl (q09 rfl (fun g1=>?_) (fun g1=>?_)))))
  ·rw[q06]at g1
   refine gg rfl (q0d rfl (gg rfl (q08 rfl rfl rfl trivial ?_)))
   rw[if_neg (by simp;omega)]
  rw[q07]at g1
  refine gg rfl ?_
  rw[wm]
  refine q01 rfl (fun g2=>?_) (fun g2=>?_)
  ·rw[q06]at g2
   refine gg rfl (q08 rfl rfl rfl trivial ?_)
   rw[if_neg (by simp;omega)]
  rw[q07]at g2
  have w2:=ww (x:=v+z)
  refine gg rfl ?_
  rw[w2]
  refine q08 rfl rfl rfl trivial ?_
  rw[if_pos (by simp;omega)]
 rw[q9C,if_neg hz]at s1
 refine q02 rfl rfl s1 ?_
 repeat' (first
  |refine goP 800 rfl rfl ?_
  |refine q0h rfl ?_|refine q0n rfl ?_|refine q09 rfl (fun _=>?_) (fun _=>?_)
  |refine q0d rfl ?_|refine q0j rfl ?_|refine q01 rfl (fun _=>?_) (fun _=>?_)
  |refine q0N rfl (fun _=>?_) (fun _=>?_)
  |refine q08 rfl rfl rfl trivial ?_)
 rw[if_neg (by simp;omega)]
def RSeg.mv (g:RSeg):Seg:=⟨q1N g.a g.s,q1N g.b g.s,g.w⟩
class RSegOk (g:RSeg):Prop where
 a:OkS g.a
 b:OkS g.b
 s:g.s.x.natAbs≤4294967296∧g.s.y.natAbs≤4294967296
 w0:0≤g.w
 w1:g.w≤500
theorem quM {s:Spot}(h:OkS s):MidS s:=⟨by have:=h.bx;omega,by have:=h.byy;omega⟩
set_option maxHeartbeats 2000000 in
theorem qrl (a b:RSeg) [ha:RSegOk a] [hb:RSegOk b]:PU qtK [a.enc,b.enc]=some (q0k (q1z b.a a.mv b.mv)):=by
 have oa:=ha.a
 have ob:=ha.b
 have oc:=hb.a
 have od:=hb.b
 have sa:=ha.s
 have sb:=hb.s
 have ma:MidS a.a:=quM oa
 have mb:MidS a.b:=quM ob
 have mc:MidS b.a:=quM oc
 have md:MidS b.b:=quM od
 have ms:MidS a.s:=⟨by omega,by omega⟩
 have mt:MidS b.s:=⟨by omega,by omega⟩
 have oa1:=oa.bx;have oa2:=oa.byy;have ob1:=ob.bx;have ob2:=ob.byy
 have oc1:=oc.bx;have oc2:=oc.byy;have od1:=od.bx;have od2:=od.byy
 have m1:MidS (q1N a.a a.s):=⟨by simp only[q1N];omega,by simp only[q1N];omega⟩
 have m2:MidS (q1N a.b a.s):=⟨by simp only[q1N];omega,by simp only[q1N];omega⟩
 have m3:MidS (q1N b.a b.s):=⟨by simp only[q1N];omega,by simp only[q1N];omega⟩
 have m4:MidS (q1N b.b b.s):=⟨by simp only[q1N];omega,by simp only[q1N];omega⟩
 have a0:=ha.w0
 have a1:=ha.w1
 have b0:=hb.w0
 have b1:=hb.w1
 have hm:=qxz (RP.of (qp (q1N a.a a.s))) (RP.of (qp (q1N a.b a.s))) (RP.of (qp (q1N b.a b.s))) (RP.of (qp (q1N b.b b.s))) (by decide)
 rw[RP.of_v,RP.of_v,RP.of_v,RP.of_v]at hm
 have w1:=ww (x:=4*max a.w b.w)
 have w2:=ww (x:=4*max a.w b.w+4)
 have hmv:∀x:Option QP,q3w (qp (q1N a.a a.s)) (qp (q1N a.b a.s)) (qp (q1N b.a b.s)) (qp (q1N b.b b.s))=x→q1z b.a a.mv b.mv=match x with
  |none=>[q1N a.b a.s,q1N b.a b.s]
  |some m=>if(q2y (q15 m (qp b.a))).2=0∧q0v (q2y (q15 m (qp b.a))).1 (4*max a.w b.w+4)=true then [q1N b.a (q2y (q15 m (qp b.a))).1]else [q1N a.b a.s,q1N b.a b.s]:=by
  intro x hx
  unfold q1z RSeg.mv
  simp only[hx]
  cases x<;>rfl
 refine q0g (fn:=qhx) rfl (q0a ?_)
 refine gg rfl (q02 rfl rfl (q3f a.a a.s) (gg rfl (q02 rfl rfl (qeN (q1N a.a a.s)) (gg rfl (q02 rfl rfl (q3f a.b a.s) (gg rfl (q02 rfl rfl (qeN (q1N a.b a.s)) (gg rfl (q02 rfl rfl (q3f b.a b.s) (gg rfl (q02 rfl rfl (qeN (q1N b.a b.s)) (gg rfl (q02 rfl rfl (q3f b.b b.s) ?_)))))))))))))
 refine gg rfl (q02 rfl rfl (qeN (q1N b.b b.s)) (gg rfl ?_))
 rw[w1,w2]
 cases hq:q3w (qp (q1N a.a a.s)) (qp (q1N a.b a.s)) (qp (q1N b.a b.s)) (qp (q1N b.b b.s))with
 |none=>
  rw[hq]at hm
  rw[hmv none hq]
  refine q02 rfl rfl hm (gg rfl (q01 rfl (fun g=>?_) (fun g=>?_)))
  ·rw[q1n]at g;cases g
  exact gg rfl (q02 rfl rfl (q3f a.b a.s) (gg rfl (q02 rfl rfl (q3f b.a b.s) (gg rfl (q08 rfl rfl rfl ⟨q4S (l:=[q1N a.b a.s,q1N b.a b.s]) rfl,trivial⟩ rfl)))))
 |some m=>
  rw[hq]at hm
  rw[hmv (some m) hq]
  have hqm:QPB m 50:=by
   unfold q3w at hq
   split at hq
   ·cases hq
   cases hq;exact inferInstance
  have n1:=qlX (RR.of m.x) b.a.x (4*max a.w b.w+4) (by decide) (by omega) (by omega) (by omega) (by omega)
  have n2:=qlX (RR.of m.y) b.a.y (4*max a.w b.w+4) (by decide) (by omega) (by omega) (by omega) (by omega)
  rw[RR.of_v]at n1 n2
  have ex:(q15 m (qp b.a)).x=m.x-(b.a.x:Rat):=rfl
  have ey:(q15 m (qp b.a)).y=m.y-(b.a.y:Rat):=rfl
  have hgd:(q2y (q15 m (qp b.a))).2=0∧q0v (q2y (q15 m (qp b.a))).1 (4*max a.w b.w+4)=true↔qcm m.x b.a.x (4*max a.w b.w+4)=true∧qcm m.y b.a.y (4*max a.w b.w+4)=true:=by
   unfold q2y qcm
   rw[ex,ey]
   generalize q1l (m.x-(b.a.x:Rat))=X
   generalize q1l (m.y-(b.a.y:Rat))=Y
   by_cases hin:(q8A X&&q8A Y)=true
   ·rw[if_pos hin]
    rw[decide_eq_true_eq,decide_eq_true_eq,q1B]
    simp only[true_and]
    omega
   rw[if_neg hin]
   rw[Bool.and_eq_true,q3d,q3d]at hin
   rw[decide_eq_true_eq,decide_eq_true_eq]
   constructor
   ·rintro⟨h1,_⟩;cases h1
   intro h1;exact absurd ⟨⟨by omega,by omega⟩,⟨by omega,by omega⟩⟩ hin
  have hgv:qcm m.x b.a.x (4*max a.w b.w+4)=true→qcm m.y b.a.y (4*max a.w b.w+4)=true→q1N b.a (q2y (q15 m (qp b.a))).1=⟨b.a.x+q1l (m.x-(b.a.x:Rat)),b.a.y+q1l (m.y-(b.a.y:Rat))⟩:=by
   intro h1 h2
   unfold qcm at h1 h2
   rw[decide_eq_true_eq]at h1 h2
   unfold q2y
   rw[ex,ey,if_pos (by rw[Bool.and_eq_true,q3d,q3d];omega)]
   rfl
  generalize qcm m.x b.a.x (4*max a.w b.w+4)=B1 at*
  generalize qcm m.y b.a.y (4*max a.w b.w+4)=B2 at*
  simp only
  refine q02 rfl rfl hm (gg rfl (q01 rfl (fun _=>?_) (fun g=>absurd rfl (q1Q.1 g))))
  refine gg rfl ?_
  cases B1 with
  |true=>
   rw[if_pos rfl]at n1
   refine q02 rfl rfl n1 (gg rfl ?_)
   cases B2 with
   |true=>
    rw[if_pos rfl]at n2
    refine q02 rfl rfl n2 (gg rfl (q0h rfl (gg rfl (q0d rfl (gg rfl (q08 rfl rfl rfl ⟨q4S (l:=[⟨b.a.x+q1l (m.x-(b.a.x:Rat)),b.a.y+q1l (m.y-(b.a.y:Rat))⟩]) rfl,trivial⟩ ?_))))))
    rw[if_pos (hgd.2 ⟨rfl,rfl⟩),hgv rfl rfl];rfl
   |false=>
    rw[if_neg (by decide)]at n2
    refine q02 rfl rfl n2 (gg rfl (q0h rfl (gg rfl (q0j rfl (gg rfl (q02 rfl rfl (q3f a.b a.s) (gg rfl (q02 rfl rfl (q3f b.a b.s) (gg rfl (q08 rfl rfl rfl ⟨q4S (l:=[q1N a.b a.s,q1N b.a b.s]) rfl,trivial⟩ ?_))))))))))
    rw[if_neg (fun h=>by have:=(hgd.1 h).2;cases this)];rfl
  |false=>
   rw[if_neg (by decide)]at n1
   refine q02 rfl rfl n1 (gg rfl ?_)
   have fin:∀x,some x=some (if B2=true then D.tup [.int .i64 (b.a.y+q1l (m.y-(b.a.y:Rat))),.bool true]else .tup [.int .i64 0,.bool false])→x=D.tup [.int .i64 (if B2 then b.a.y+q1l (m.y-(b.a.y:Rat))else 0),.bool B2]:=by
    intro x hx
    cases B2<;>simpa using hx
   have n2':PU qoO [(RR.of m.y).enc,.int .i64 b.a.y,.int .i64 (4*max a.w b.w+4)]=some (D.tup [.int .i64 (if B2 then b.a.y+q1l (m.y-(b.a.y:Rat))else 0),.bool B2]):=by
    rw[n2];cases B2<;>rfl
   refine q02 rfl rfl n2' (gg rfl (q0n rfl (gg rfl (q0j rfl (gg rfl (q02 rfl rfl (q3f a.b a.s) (gg rfl (q02 rfl rfl (q3f b.a b.s) (gg rfl (q08 rfl rfl rfl ⟨q4S (l:=[q1N a.b a.s,q1N b.a b.s]) rfl,trivial⟩ ?_))))))))))
   rw[if_neg (fun h=>by have:=(hgd.1 h).1;cases this)];rfl
end Go.F

namespace Go.F
attribute [local irreducible] IntKind.wrap wpM
theorem qFK (l:List Spot):∀k,0<k→0<l.length→0<((l.take k).foldl q1p []).length:=by
 intro k hk hl
 cases l with
 |nil=>simp at hl
 |cons a t=>
  obtain⟨m,rfl⟩:∃m,k=m+1:=⟨k-1,by omega⟩
  rw[List.take_succ_cons,List.foldl_cons]
  have key:∀(l out:List Spot),0<out.length→0<(l.foldl q1p out).length:=by
   intro l
   induction l with
   |nil=>intro out h;exact h
   |cons b l ih=>
    intro out h
    rw[List.foldl_cons]
    refine ih _ ?_
    unfold q1p;split
    ·rw[List.length_append];omega
    exact h
  exact key _ _ (by simp[q1p])
set_option maxHeartbeats 2000000 in
theorem qxA (l:List Spot)(hl:l.length≤1000):PU qz1 [q0k l]=some (q0k ((q26 l).take (q3i (q26 l) (q26 l).length))):=by
 have hfl:∀k,((l.take k).foldl q1p []).length≤1000:=fun k=>by
  have:=qeD (l.take k) []
  simp at*;omega
 refine q0g (fn:=qnl) rfl (q0a ?_)
 refine gg rfl (q0l (S:=fun k:Nat=>([q0k l,.ref 1 0 ((l.take k).foldl q1p []).length,q00 k],[none,some (.row (((l.take k).foldl q1p []).map Spot.enc) 2),none],[0,0,0])) (C:=fun k=>k≤l.length) (m:=fun k=>l.length-k) 0 (Nat.zero_le _) (by omega) ?_ ?_)
 ·exact q03 rfl ⟨rfl,trivial⟩ (by simp[q0k,q00])
 intro k hk N hN
 refine gg rfl ?_
 rw[List.length_map]
 refine q01 rfl (fun g=>?_) (fun g=>?_)
 ·rw[q06]at g
  have hlt:k<l.length:=by omega
  have w1:=wS (n:=k)
  have hstep:=qnf hlt []
  have hfk:=hfl k
  have hpos:=qFK l k
  generalize hO:(l.take k).foldl q1p []=O at*
  have next:∀{t:q0x} {h:q0e} {z:Frz} {nx:Nat},(q12 0 [(0,0),(3,2),(4,0)] t h z nx fun _ _ kp=>kp=([q0k l,.ref 1 0 (q1p O (pt l k)).length,q00 ((k+1:Nat):Int)],[none,some (.row ((q1p O (pt l k)).map Spot.enc) 2),none],[0,0,0]))→N t h z nx:=by
   intro t h z nx hst
   refine hN (k+1) hlt (by omega) ?_
   rw[hstep];exact hst
  clear hN
  refine gg rfl (q09 rfl (fun e1=>?_) (fun e1=>?_))
  ·rw[q1n]at e1
   obtain rfl:k=0:=by omega
   have hO0:O=[]:=by rw[←hO];rfl
   subst hO0
   have hpush:q1p [] (pt l 0)=[]++[pt l 0]:=by rw[q1p,if_pos (.inl rfl)]
   refine gg rfl (q0d rfl (gg rfl (q0i 0 rfl rfl rfl (q0Q hlt) rfl (gg rfl (q1b rfl rfl rfl rfl rfl rfl (by simp) (Nat.zero_le _) (by simp[q0M]) ?_)))))
   refine gg rfl (q04 (next (q03 rfl ⟨rfl,trivial⟩ ?_)))
   rw[hpush];simp[q0k,q00,w1,Spot.enc]
   exact w1
  rw[q1Q]at e1
  have hO0:=hpos (by omega) (by omega)
  have wl:IntKind.i64.wrap ((O.length:Int)-1)=((O.length-1:Nat):Int):=by rw[wrap64 (by omega) (by omega)];omega
  have hlast:O[O.length-1]?=some (q1x O):=by rw[q1x,q0D (by omega)];exact List.getElem?_eq_getElem (by omega)
  refine gg rfl (q0i k rfl rfl rfl (q0Q hlt) rfl (gg rfl (q0H (O.length-1) rfl rfl rfl rfl wl (by omega) ?_)))
  refine gg rfl (q2U (enc:=Spot.enc) O (O.length-1) (q1x O) rfl (Nat.zero_add _) (fun _=>rfl) rfl hlast (gg rfl (q01 rfl (fun e2=>?_) (fun e2=>?_))))
  ·rw[q1I]at e2
   have hne:q1x O≠pt l k:=fun h=>by rw[h]at e2;simp at e2
   have hpush:q1p O (pt l k)=O++[pt l k]:=by rw[q1p,if_pos (.inr hne)]
   refine gg rfl (q0i k rfl rfl rfl (q0Q hlt) rfl (gg rfl (q1b rfl rfl rfl rfl rfl rfl (by simp) (Nat.zero_le _) (by simp[q0M];omega) ?_)))
   refine gg rfl (q04 (next (q03 rfl ⟨?_,trivial⟩ ?_)))
   ·rw[List.all_append,q05 q0r];rfl
   rw[hpush];simp[q0k,q00,w1,Spot.enc]
  rw[q1I]at e2
  have heq:q1x O=pt l k:=(by simpa using e2:pt l k=q1x O).symm
  have hpush:q1p O (pt l k)=O:=by rw[q1p,if_neg (by intro h;rcases h with h|h;omega;exact h heq)]
  exact gg rfl (q04 (next (q03 rfl ⟨q05 q0r _,trivial⟩ (by rw[hpush];simp[q0k,q00,w1]))))
 rw[q07]at g
 obtain rfl:k=l.length:=by omega
 clear hN
 have hR:=hfl l.length
 rw[List.take_length]at hR
 rw[List.take_length]
 have hon:l.foldl q1p []=q26 l:=rfl
 rw[hon]at hR
 refine gg rfl (q04 (gg rfl ?_))
 rw[hon]
 generalize q26 l=R at*
 refine q0l (S:=fun j:Nat=>([.ref 0 0 j],[some (.row (R.map Spot.enc) 2)],[0])) (C:=fun j=>j≤R.length∧q3i R j=q3i R R.length) (m:=fun j=>j) R.length ⟨Nat.le_refl _,rfl⟩ (by omega) ?_ ?_
 ·exact q03 rfl ⟨q05 q0r _,trivial⟩ (by simp)
 rintro j ⟨hj,htr⟩ N hN
 have wl:j≠0→IntKind.i64.wrap ((j:Int)-1)=((j-1:Nat):Int):=fun h=>by rw[wrap64 (by omega) (by omega)];omega
 have hstop:¬(2≤j∧pt R (j-1)=pt R 0)→q3i R R.length=j:=by
  intro h
  rw[←htr]
  cases j with
  |zero=>rfl
  |succ j=>rw[q3i,if_neg (fun h'=>h ⟨by omega,by simpa using h'.2⟩)]
 refine gg rfl (q09 rfl (fun e1=>?_) (fun e1=>?_))
 ·rw[q06]at e1
  have hj2:2≤j:=by omega
  refine gg rfl (q0H (j-1) rfl rfl rfl rfl (wl (by omega)) (by omega) ?_)
  refine gg rfl (q2U (enc:=Spot.enc) R (j-1) (pt R (j-1)) rfl (Nat.zero_add _) (fun _=>rfl) rfl (by rw[q0D (by omega)];exact List.getElem?_eq_getElem (by omega)) ?_)
  refine gg rfl (q0H 0 rfl rfl rfl rfl rfl (by omega) ?_)
  refine gg rfl (q2U (enc:=Spot.enc) R 0 (pt R 0) rfl rfl (fun _=>rfl) rfl (by rw[q0D (by omega)];exact List.getElem?_eq_getElem (by omega)) ?_)
  refine gg rfl (q01 rfl (fun e2=>?_) (fun e2=>?_))
  ·rw[q1I]at e2
   have heq:pt R (j-1)=pt R 0:=by simpa using e2
   refine gg rfl (q9O (j-1) rfl rfl rfl ⟨_,_,rfl,wl (by omega)⟩ (by omega) ?_)
   refine gg rfl (q04 (hN (j-1) ⟨by omega,?_⟩ (by omega) (q03 rfl ⟨q05 q0r _,trivial⟩ (by simp))))
   rw[←htr]
   obtain⟨i,rfl⟩:∃i,j=i+1:=⟨j-1,by omega⟩
   rw[q3i,if_pos ⟨by omega,by simpa using heq⟩];rfl
  rw[q1I]at e2
  have hne:¬(2≤j∧pt R (j-1)=pt R 0):=fun h=>by rw[h.2]at e2;simp at e2
  rw[hstop hne]
  clear hN
  refine gg rfl (q04 (gg rfl (q08 rfl rfl rfl ⟨⟨by simp;omega,by rw[List.drop_zero,←List.map_take];exact q0W q2r _⟩,trivial⟩ ?_)))
  rw[q0k,List.map_take]
 rw[q07]at e1
 have hne:¬(2≤j∧pt R (j-1)=pt R 0):=fun h=>by omega
 rw[hstop hne]
 clear hN
 refine gg rfl (q0j rfl (gg rfl (q04 (gg rfl (q08 rfl rfl rfl ⟨⟨by simp;omega,by rw[List.drop_zero,←List.map_take];exact q0W q2r _⟩,trivial⟩ ?_)))))
 rw[q0k,List.map_take]
def q3T (s:List RSeg)(k:Nat):List Spot:=(List.range k).flatMap fun i=>match s[(i+s.length-1)%s.length]?,s[i]? with
 |some a,some b=>q1z b.a a.mv b.mv
 |_,_=>[]
theorem q9K (s:List RSeg){k:Nat}(hk:k<s.length):q3T s (k+1)=q3T s k++q1z s[k].a (s[(k+s.length-1)%s.length]'(Nat.mod_lt _ (by omega))).mv s[k].mv:=by
 unfold q3T
 rw[List.range_succ,List.flatMap_append,List.flatMap_singleton]
 congr 1
 have h:=Nat.mod_lt (k+s.length-1) (show 0<s.length by omega)
 rw[List.getElem?_eq_getElem h,List.getElem?_eq_getElem hk]
theorem quN (s:List RSeg):∀k,k≤s.length→(q3T s k).length≤2*k:=by
 intro k
 induction k with
 |zero=>intro _;simp[q3T]
 |succ k ih=>
  intro hk
  rw[q9K s (by omega),List.length_append]
  have:=ih (by omega)
  have:=q8P s[k].a (s[(k+s.length-1)%s.length]'(Nat.mod_lt _ (by omega))).mv s[k].mv
  omega
def qpO (l:List Edge)(ws:List Int):List Spot×Int:=
 if(q58 l ws).2=0 then
  let C:=q3T (q58 l ws).1 (q58 l ws).1.length
  let q:=(q26 C).take (q3i (q26 C) (q26 C).length)
  if q.any (fun s=>!q0v s 1048576)then([],3)
  else if q1E q=0 then if sg1 (q0Z q)=sg1 (q0Z (q0m l))then(q,0)else([],11)
  else([],q1E q)
 else([],(q58 l ws).2)
theorem qxB {l:List Edge}{ws:List Int}(h:(q58 l ws).2=0):q0J l=0∧ws.length=l.length∧(∀x∈ws,0≤x∧x≤500)∧(q58 l ws).1=q3J l ws (sg1 (q0Z (q0m l))) l.length:=by
 unfold q58 at h⊢
 split at h
 ·rename_i h1
  split at h
  ·rename_i h2
   split at h
   ·cases h
   rename_i h3
   refine⟨h1,h2,fun x hx=>qgJ ?_,by rw[if_pos h1,if_pos h2,if_neg h3]⟩
   cases hb:q2j x with
   |false=>rfl
   |true=>exact absurd (List.any_eq_true.2 ⟨x,hx,hb⟩) h3
  cases h
 rename_i h1;exact absurd h h1
set_option maxHeartbeats 4000000 in
theorem quO (l:List Edge)(ws:List Int):PU qwg [edges l,ints ws]=some (qnd (qpO l ws)):=by
 have hpoly:=q8C l
 refine q0g (fn:=qky) rfl (q0a ?_)
 refine gg rfl (q02 rfl rfl (qmG l ws) (gg rfl (q01 rfl (fun g=>?_) (fun g=>?_))))
 ·rw[q0u]at g
  refine gg rfl (q08 rfl rfl rfl trivial ?_)
  rw[qpO,if_neg g];rfl
 rw[q0z]at g
 rw[qpO,if_pos g]
 obtain⟨hc,hwl,hgood,hs1⟩:=qxB g
 obtain⟨h2,h16,_,_,hchk⟩:=q11 hc
 obtain⟨v3,v40,vok,vin,vs⟩:=q16 hchk
 rw[q8p,if_pos hc]at hpoly
 have hsl:(q58 l ws).1.length=(q0m l).length:=by rw[hs1,qgC l ws _ _ (Nat.le_refl _),List.take_length]
 have hok:∀s∈(q58 l ws).1,RSegOk s:=by
  intro s hs
  rw[hs1,qpQ hc]at hs
  obtain⟨i,hi,rfl⟩:=List.mem_map.1 hs
  have hi:=List.mem_range.1 hi
  have hb:=qAG (l:=l) (ws:=ws) (by omega) hgood
  have hsg: -1≤sg1 (q0Z (q0m l))∧sg1 (q0Z (q0m l))≤1:=by rcases qG0 (q0Z (q0m l))with h|h<;>omega
  exact⟨qC5,qC5,qg7 hsg hb vs (by omega) hi,(hb i).1,(hb i).2⟩
 generalize (q58 l ws).1=s at*
 generalize (q58 l ws).2=e0 at*
 subst g
 simp only
 have hcl:=quN s
 refine gg rfl (q0l (S:=fun k:Nat=>([edges l,.lst (s.map RSeg.enc),.ref 2 0 (q3T s k).length,q00 k],[none,none,some (.row ((q3T s k).map Spot.enc) 2),none],[0,0,0,0])) (C:=fun k=>k≤s.length) (m:=fun k=>s.length-k) 0 (Nat.zero_le _) (by omega) ?_ ?_)
 ·exact q03 rfl ⟨rfl,trivial⟩ (by simp[edges,q00,q3T])
 intro k hk N hN
 refine gg rfl ?_
 rw[List.length_map]
 refine q01 rfl (fun g1=>?_) (fun g1=>?_)
 ·rw[q06]at g1
  have hlt:k<s.length:=by omega
  have w1:=wS (n:=k)
  have w2:IntKind.i64.wrap (IntKind.i64.wrap ((k:Int)+(s.map RSeg.enc).length)-1)=((k+s.length-1:Nat):Int):=by rw[List.length_map,wrap64 (x:=(k:Int)+s.length) (by omega) (by omega),wrap64 (by omega) (by omega)];omega
  have hm:(k+s.length-1)%s.length<s.length:=Nat.mod_lt _ (by omega)
  have ok1:=hok _ (List.getElem_mem hm)
  have ok2:=hok _ (List.getElem_mem hlt)
  have hst:=q9K s hlt
  have hk0:=hcl k (by omega)
  have hcs:=q8P s[k].a (s[(k+s.length-1)%s.length]).mv s[k].mv
  refine gg rfl (q37 rfl rfl (by rw[List.length_map];omega) ?_)
  refine gg rfl (q0i ((k+s.length-1)%s.length) rfl rfl (by rw[w2,List.length_map,q1s]) (q1A hm) rfl ?_)
  refine gg rfl (q0i k rfl rfl rfl (q1A hlt) rfl (gg rfl (q02 rfl rfl (qrl (s[(k+s.length-1)%s.length]) s[k]) (gg rfl (qAq rfl rfl rfl (q1o (f:=Spot.enc) (n:=2) (fun _=>rfl) _) (by simp) (Nat.zero_le _) (by simp[q0M];omega) ?_)))))
  refine gg rfl (q04 (hN (k+1) hlt (by omega) (q03 rfl ⟨?_,trivial⟩ ?_)))
  ·rw[←List.map_append];exact q05 q0r _
  rw[hst];simp[edges,q00,w1]
 rw[q07]at g1
 obtain rfl:k=s.length:=by omega
 clear hN
 have hC:=hcl s.length (Nat.le_refl _)
 generalize q3T s s.length=C at*
 have hrow:D.lst ((C.map Spot.enc).take C.length)=q0k C:=q2t (by simp)
 have hq:((q26 C).take (q3i (q26 C) (q26 C).length)).length≤80:=by
  have:=qeD C []
  have h3:(q26 C).length≤C.length:=by simpa[q26]using this
  rw[List.length_take];omega
 refine gg rfl (q04 (gg rfl (q1T rfl rfl ⟨q4S rfl,trivial⟩ (by rw[hrow];exact qxA C (by omega)) fun z=>?_)))
 generalize (q26 C).take (q3i (q26 C) (q26 C).length)=q at*
 refine gg rfl (q0l (S:=fun k:Nat=>([edges l,q0k q,q00 k],[none,none,none],[0,0,0])) (C:=fun k=>k≤q.length∧∀i,i<k→q0v (pt q i) 1048576=true) (m:=fun k=>q.length-k) 0 ⟨Nat.zero_le _,fun i hi=>by omega⟩ (by omega) ?_ ?_)
 ·exact q03 rfl trivial (by simp[edges,q0k,q00])
 rintro k ⟨hk,hin⟩ N hN
 refine gg rfl ?_
 rw[List.length_map]
 refine q01 rfl (fun f1=>?_) (fun f1=>?_)
 ·rw[q06]at f1
  have hlt:k<q.length:=by omega
  have w1:=wS (n:=k)
  refine gg rfl (q0i k rfl rfl rfl (q0Q hlt) rfl (gg rfl (q02 rfl rfl (qg0 (pt q k)) (gg rfl (q01 rfl (fun f2=>?_) (fun f2=>?_))))))
  ·refine gg rfl (q04 (gg rfl (q08 rfl rfl rfl trivial ?_)))
   have:q.any (fun s=>!q0v s 1048576)=true:=List.any_eq_true.2 ⟨pt q k,by rw[q0D hlt];exact List.getElem_mem _,f2⟩
   rw[if_pos this];rfl
  refine gg rfl (q04 (hN (k+1) ⟨hlt,fun i hi=>?_⟩ (by omega) (q03 rfl trivial (by simp[edges,q0k,q00,w1]))))
  by_cases hik:i<k
  ·exact hin i hik
  obtain rfl:i=k:=by omega
  simpa using f2
 rw[q07]at f1
 clear hN
 have hany:q.any (fun s=>!q0v s 1048576)=false:=by
  rw[List.any_eq_false]
  intro s hs
  obtain⟨i,hi,rfl⟩:=List.getElem_of_mem hs
  have:=hin i (by omega)
  rw[q0D (by omega)]at this
  simp[this]
 rw[if_neg (by rw[hany];decide)]
 refine gg rfl (q04 (gg rfl (q02 rfl rfl (qbv q) (gg rfl (q01 rfl (fun f3=>?_) (fun f3=>?_))))))
 ·rw[q0u]at f3
  refine gg rfl (q08 rfl rfl rfl trivial ?_)
  rw[if_neg f3];rfl
 rw[q0z]at f3
 rw[if_pos f3]
 refine gg rfl (q02 rfl rfl hpoly (gg rfl (q02 rfl rfl (q5t q) (gg rfl (q02 rfl rfl (q5t (q0m l)) (gg rfl (q01 rfl (fun f4=>?_) (fun f4=>?_))))))))
 ·rw[q0u]at f4
  refine gg rfl (q08 rfl rfl rfl trivial ?_)
  rw[if_neg f4];rfl
 rw[q0z]at f4
 rw[if_pos f4]
 exact gg rfl (q08 rfl rfl rfl trivial rfl)
theorem quP {l:List Edge}(hc:q0J l=0)(ws:List Int)(sg:Int):∀k,k≤(q0m l).length→
 q3T (q3J l ws sg l.length) k=q0X (q0m l) (q22 (q0m l) (q1X l ws l.length) sg) (q1X l ws l.length) k:=by
 have hs:=qpQ hc ws sg
 have hl:(q3J l ws sg l.length).length=(q0m l).length:=by rw[hs];simp
 intro k
 induction k with
 |zero=>intro _;rfl
 |succ k ih=>
  intro hk
  have hm:=Nat.mod_lt (k+(q0m l).length-1) (show 0<(q0m l).length by omega)
  rw[q9K _ (by omega),ih (by omega),q0X]
  congr 1
  have e1:∀i (hi:i<(q0m l).length),(q3J l ws sg l.length)[i]'(by omega)=⟨pt (q0m l) i,pt (q0m l) ((i+1)%(q0m l).length),wd (q1X l ws l.length) i,q3n (q0m l) (q1X l ws l.length) sg i⟩:=by
   intro i hi;simp[hs]
  have e2:∀i (hi:i<(q0m l).length),pt (q22 (q0m l) (q1X l ws l.length) sg) i=q3n (q0m l) (q1X l ws l.length) sg i:=by
   intro i hi;rw[q22,qne hi]
  simp only[hl]
  rw[e1 k (by omega),e1 _ hm]
  unfold q32 q3h RSeg.mv
  simp only
  rw[e2 k (by omega),e2 _ hm]
theorem qzW (l:List Edge)(ws:List Int):q23 l ws=qpO l ws:=by
 have h:=qxF l ws
 have h2:(q1c l ws).2=(q58 l ws).2:=by rw[h]
 unfold q23 qpO
 rw[h2]
 split
 ·rename_i h0
  obtain⟨hc,hwl,hgood,hs1⟩:=qxB h0
  obtain⟨_,_,_,_,hchk⟩:=q11 hc
  have hnz:=qpt hchk
  obtain⟨_,_,_,hs2⟩:=q7I (h2.trans h0)
  have hl:(q58 l ws).1.length=(q0m l).length:=by rw[hs1,qgC l ws _ _ (Nat.le_refl _),List.take_length]
  have hcc:q3T (q58 l ws).1 (q58 l ws).1.length=q0X (q0m l) (q1c l ws).1 (q1X l ws l.length) (q0m l).length:=by
   rw[hl,hs1,hs2,qv0 hnz,quP hc ws _ _ (Nat.le_refl _)]
  simp only
  rw[hcc]
  unfold q7H q2O
  generalize (q26 (q0X (q0m l) (q1c l ws).1 (q1X l ws l.length) (q0m l).length)).take (q3i (q26 (q0X (q0m l) (q1c l ws).1 (q1X l ws l.length) (q0m l).length)) (q26 (q0X (q0m l) (q1c l ws).1 (q1X l ws l.length) (q0m l).length)).length)=q
  split
  ·rfl
  split
  ·rename_i hq
   rw[qv0 (qpt hq),qv0 hnz]
  rfl
 rfl
end Go.F

namespace Go.F
attribute [local irreducible] IntKind.wrap wpM
end Go.F

namespace Go.F
attribute [local irreducible] IntKind.wrap wpM
set_option maxHeartbeats 2000000 in
theorem qHA (p:Piece)(l:List Int)(hc:p.corners.length≤1000000)(hl:l.length≤1000000):PU qwr [p.enc,ints l]=some (.tup [ints (qer p l).1,.int .i64 (qer p l).2]):=by
 unfold qer
 have hn:∀{x:Int} {P:Prop},nqb x x=true→P:=fun h=>absurd rfl (q0u.1 h)
 refine q0g (fn:=ql3) rfl (q0a ?_)
 refine gg rfl (q0l (S:=fun k:Nat=>([ints l,.ptr 1 0 0,.ref 2 0 k,q00 k],[none,some (.row [p.enc] 7),some (.row (((l.take k).map (q6x p)).map q00) 1),none],[0,0,0,0])) (C:=fun k=>k≤l.length∧q6y p l=q6y p (l.drop k)) (m:=fun k=>l.length-k) 0 ⟨Nat.zero_le _,rfl⟩ (by omega) ?_ ?_)
 ·exact q03 rfl ⟨rfl,rfl,trivial⟩ rfl
 rintro k ⟨hk,hke⟩ N hN
 refine gg rfl ?_
 rw[List.length_map]
 refine q01 rfl (fun e=>?_) (fun e=>?_)
 ·rw[q06]at e
  have hlt:k<l.length:=by omega
  have w1:=wS (n:=k)
  have hdr:l.drop k=mu l k::l.drop (k+1):=by rw[List.drop_eq_getElem_cons hlt,qjO hlt]
  have hst:(((l.take (k+1)).map (q6x p)).map q00)=((l.take k).map (q6x p)).map q00++[q00 (q6x p (mu l k))]:=by
   rw[List.take_succ_eq_append_getElem hlt,List.map_append,List.map_append,qjO hlt];rfl
  have hx:=q7f hlt
  rw[hdr,q6y]at hke
  generalize mu l k=m at*
  have hg:=q3e p m hc
  have hbd:=qyd (q0m (q0p p m).1)
  have hmx:q6x p m=max (q0Z (q0m (q0p p m).1)) (-q0Z (q0m (q0p p m).1)):=rfl
  have hp:=q8C (q0p p m).1
  have ha:=qiA (q0m (q0p p m).1)
  have w2:IntKind.i64.wrap (0-q0Z (q0m (q0p p m).1))= -q0Z (q0m (q0p p m).1):=by rw[wrap64 (by omega) (by omega)];omega
  have w3:=ww (x:= -q0Z (q0m (q0p p m).1))
  refine gg rfl (q0i k rfl rfl rfl hx rfl (gg rfl (q02 rfl rfl hg (gg rfl (q01 rfl (fun f=>?_) (fun f=>?_))))))
  ·rw[q0u]at f
   rw[if_neg f]at hke
   refine gg rfl (q04 (gg rfl (q08 rfl rfl rfl trivial ?_)))
   rw[hke,if_pos f];rfl
  rw[q0z]at f
  rw[if_pos f]at hke
  rw[q8p,if_pos (qqj f)]at hp
  refine gg rfl (q02 rfl rfl hp (gg rfl (q02 rfl rfl ha (gg rfl ?_))))
  first|rw[w2] |rw[w3]
  rw[←hmx]
  refine q1b rfl rfl rfl rfl rfl rfl (by simp;omega) (Nat.zero_le _) (by simp[q0M];omega) ?_
  refine gg rfl (q04 (hN (k+1) ⟨hlt,hke⟩ (by omega) (q03 rfl ⟨rfl,?_,trivial⟩ ?_)))
  ·rw[List.all_append,q05 q5y];rfl
  rw[hst,w1];rfl
 rw[q07]at e
 obtain rfl:k=l.length:=by omega
 have hz:q6y p l=0:=by rw[hke,List.drop_length];rfl
 rw[hz,List.take_length]
 refine gg rfl (q04 (gg rfl (q08 rfl rfl rfl ⟨q2s (by simp) (q0W qeE _),trivial⟩ ?_)))
 rw[q2t (by simp)];rfl
theorem qmb (p:Piece)(m:Int)(e:Nat)(hc:p.corners.length≤1000000)(hg:(q0p p m).2=0)(he:e<p.edges.length):PU qza [p.enc,.int .i64 m,.int .i64 e]=some (.tup [.int .i64 (qye p m e),.int .i64 0]):=by
 have h1:=q3e p m hc
 have hl:=q2b hg
 have h2:=q9H (eg (q0p p m).1 e).line
 rw[qBt hg he]at h2
 have hn:∀{x:Int} {P:Prop},nqb x x=true→P:=fun h=>absurd rfl (q0u.1 h)
 refine q0g (fn:=qnp) rfl (q0a ?_)
 refine gg rfl (q02 rfl rfl h1 (gg rfl ?_))
 rw[hg]
 refine q01 rfl hn (fun _=>?_)
 refine gg rfl (q0i e rfl rfl rfl (q1K (by omega)) rfl ?_)
 exact gg rfl (q02 rfl rfl h2 (gg rfl (q08 rfl rfl rfl trivial rfl)))
theorem qg1 (s:Sty)(p e:Int):PU qtU [s.enc,.int .i64 p,.int .i64 e]=some (.bool (q1P s p e)):=by
 refine q0g (fn:=qhF) rfl (q0a ?_)
 refine gg rfl (q09 rfl (fun g1=>?_) (fun g1=>?_))
 ·rw[q0E]at g1
  refine gg rfl ?_
  rw[List.length_map]
  refine q09 rfl (fun g2=>?_) (fun g2=>?_)
  ·rw[q06]at g2
   refine gg rfl (q09 rfl (fun g3=>?_) (fun g3=>?_))
   ·rw[q0E]at g3
    refine gg rfl (q0i p.toNat rfl rfl (by omega) (q4q (by omega)) rfl ?_)
    refine gg rfl (q08 rfl rfl rfl trivial ?_)
    rw[q1P,decide_eq_true g1,decide_eq_true g2,decide_eq_true g3,q1J,List.length_map];rfl
   rw[q0F]at g3
   refine gg rfl (q08 rfl rfl rfl trivial ?_)
   rw[q1P,decide_eq_false (show¬0≤e by omega)];simp
  rw[q07]at g2
  refine gg rfl (q0n rfl (gg rfl (q08 rfl rfl rfl trivial ?_)))
  rw[q1P,decide_eq_false (show¬p<s.pieces.length by omega)];simp
 rw[q0F]at g1
 refine gg rfl (q0n rfl (gg rfl (q0n rfl (gg rfl (q08 rfl rfl rfl trivial ?_)))))
 rw[q1P,decide_eq_false (show¬0≤p by omega)];rfl
theorem qGo (s:Sty)(z k:Nat)(h:SewOk s z k):PU qqO [s.enc,.int .i64 z,.int .i64 k]=some (.tup [.int .i64 (qiX s z (sw s.seams k)),.int .i64 (qiY s z (sw s.seams k)),.int .i64 0]):=by
 obtain⟨hz,hk,hea,heb,hga,hgb,hca⟩:=h
 have hx:=qjN hk
 unfold qiX qiY
 generalize sw s.seams k=m at*
 obtain⟨a1,a2,a3,a4⟩:=q5a hea
 obtain⟨b1,b2,b3,b4⟩:=q5a heb
 have e1:=qg1 s m.pa m.ea
 have e2:=qg1 s m.pb m.eb
 rw[hea]at e1
 rw[heb]at e2
 have la:=qmb (pc s.pieces m.pa.toNat) (mu s.mults z) m.ea.toNat (hca _ (q7e a2)) hga a4
 have lb:=qmb (pc s.pieces m.pb.toNat) (mu s.mults z) m.eb.toNat (hca _ (q7e b2)) hgb b4
 have ia:((m.ea.toNat:Nat):Int)=m.ea:=by omega
 have ib:((m.eb.toNat:Nat):Int)=m.eb:=by omega
 rw[ia]at la
 rw[ib]at lb
 have hn:∀{x:Int} {P:Prop},nqb x x=true→P:=fun h=>absurd rfl (q0u.1 h)
 refine q0g (fn:=qf8) rfl (q0a ?_)
 refine gg rfl (q09 rfl (fun g=>?_) (fun g=>?_))
 ·rw[q06]at g;omega
 refine gg rfl ?_
 rw[List.length_map]
 refine q09 rfl (fun g=>?_) (fun g=>?_)
 ·rw[q0E]at g;omega
 refine gg rfl (q09 rfl (fun g=>?_) (fun g=>?_))
 ·rw[q06]at g;omega
 refine gg rfl ?_
 rw[List.length_map]
 refine q01 rfl (fun g=>?_) (fun g=>?_)
 ·rw[q0E]at g;omega
 refine gg rfl (q0i k rfl rfl rfl hx rfl (gg rfl (q02 rfl rfl e1 (gg rfl (q0n rfl (gg rfl (q02 rfl rfl e2 (gg rfl (q0j rfl (gg rfl (q0i m.pa.toNat rfl rfl (by omega) (q4q a2) rfl ?_)))))))))))
 refine gg rfl (q0i z rfl rfl rfl (q7f hz) rfl (gg rfl (q02 rfl rfl la (gg rfl (q01 rfl hn (fun _=>?_))))))
 refine gg rfl (q0i m.pb.toNat rfl rfl (by omega) (q4q b2) rfl ?_)
 refine gg rfl (q0i z rfl rfl rfl (q7f hz) rfl (gg rfl (q02 rfl rfl lb (gg rfl (q01 rfl hn (fun _=>?_))))))
 exact gg rfl (q08 rfl rfl rfl trivial rfl)
end Go.F

namespace Go.F
end Go.F

namespace Go.F
theorem rnd_le {a t f:Nat}(hf:0<f)(h:a≤f):0≤q1u ((a:Int) *t) f∧q1u ((a:Int) *t) f≤t:=by
 rw[←Int.natCast_mul,qmV hf]
 have h1:=Nat.div_add_mod (a*t) f
 have h2:a*t≤f*t:=Nat.mul_le_mul_right _ h
 generalize hq:a*t/f=q at*
 generalize hr:a*t%f=r at*
 refine⟨by omega,?_⟩
 have:q+(if f≤2*r then 1 else 0)≤t:=by
  split
  ·have:q<t:=by
    apply Decidable.byContradiction
    intro hc
    have:f*t≤f*q:=Nat.mul_le_mul_left _ (by omega)
    omega
   omega
  apply Decidable.byContradiction
  intro hc
  have:f*(t+1)≤f*q:=Nat.mul_le_mul_left _ (by omega)
  rw[Nat.mul_succ]at this
  omega
 omega
theorem qKc {fr to at_:Int}(h:(q3v fr to false at_).2=0):0≤(q3v fr to false at_).1∧(q3v fr to false at_).1≤to:=by
 have hb:=qDR.1 h
 unfold q3v
 rw[if_neg hb]
 unfold q4y at hb
 obtain⟨F,rfl⟩:∃n:Nat,fr=n:=⟨fr.toNat,by omega⟩
 obtain⟨T,rfl⟩:∃n:Nat,to=n:=⟨to.toNat,by omega⟩
 obtain⟨A,rfl⟩:∃n:Nat,at_=n:=⟨at_.toNat,by omega⟩
 exact rnd_le (by omega) (by omega)
theorem qKd {l:List Spot}(h:q1v l=0):1≤(q17 l).1:=by
 obtain⟨h2,h40,hw⟩:=q2k h
 unfold q17
 rw[if_pos h]
 have hne:pt l 0≠pt l 1:=by
  unfold q1v at h
  rw[if_neg (by omega),if_neg (by omega)]at h
  split at h
  ·cases h
  split at h
  ·rename_i hh;exact hh 0 (by omega)
  cases h
 have hw':∀i,i<l.length→q0v (pt l i) 1048576=true:=fun i hi=>hw (pt l i) (by rw[q0D hi];exact List.getElem_mem _)
 have hp:=qKu (hw' 0 (by omega)) (hw' 1 (by omega)) hne
 have hm:∀k,1≤k→1≤q36 l k:=by
  intro k
  induction k with
  |zero=>intro h;omega
  |succ k ih=>
   intro _
   rw[q36]
   by_cases hk:k=0
   ·subst hk;have hp:0<qeZ (pt l 0) (pt l (0+1)):=hp;omega
   have:=ih (by omega);omega
 show(1:Int)≤((q36 l (l.length-1):Nat):Int)
 have:=hm (l.length-1) (by omega)
 omega
theorem qJu {p:Piece}{m:Int}(h:(q0S p m).2=0):(q0S p m).1=p.notches.map (fun n=>(q1w p (q0p p m).1 n).1)∧∀n∈p.notches,(q1w p (q0p p m).1 n).2=0:=by
 unfold q0S at h⊢
 split at h
 ·rename_i g;exact absurd h g
 rename_i g
 rw[if_neg g]
 split at h
 ·cases h
 rename_i g2
 rw[if_neg g2]
 split at h
 ·rename_i g3;exact absurd h g3
 rename_i g3
 rw[if_neg g3]
 exact⟨rfl,qeA.1 (Decidable.not_not.1 g3)⟩
end Go.F

namespace Go.F
attribute [local irreducible] IntKind.wrap wpM
set_option maxHeartbeats 2000000 in
theorem qJN (p:Piece)(s:Sid)(at_:Int)(hp:p.notches=s.ns)(h:SidOk s)(h1: -1099511627777≤at_)(h2:at_≤1099511627777):PU qI2 [p.enc,ints s.ps,.int .i64 s.edge,.int .i64 at_]=some (.bool (qqn s at_)):=by
 have hlen:=h.len
 have hfew:=h.few
 refine q0g (fn:=qyz) rfl (q0a ?_)
 refine gg rfl (q0l (S:=fun k:Nat=>([ints s.ps,.int .i64 s.edge,.int .i64 at_,.ptr 3 0 0,q00 k],[none,none,none,some (.row [p.enc] 7),none],[0,0,0,0,0])) (C:=fun k=>k≤s.ns.length∧∀i,i<k→qDN s at_ i=false) (m:=fun k=>s.ns.length-k) 0 ⟨Nat.zero_le _,fun i hi=>by omega⟩ (by omega) ?_ ?_)
 ·exact q03 rfl ⟨rfl,trivial⟩ rfl
 rintro k ⟨hk,hno⟩ N hN
 refine gg rfl ?_
 rw[List.length_map]
 refine q01 rfl (fun e=>?_) (fun e=>?_)
 ·rw[q06]at e
  have hlt:k<s.ns.length:=by omega
  have w1:=wS (n:=k)
  have hx:(p.notches.map Ntc.enc)[k]?=some (nt s.ns k).enc:=by rw[hp];exact qv6 hlt
  have hq:=q7f (l:=s.ps) (i:=k) (by omega)
  have hpb:=h.bd (mu s.ps k) (by rw[qjO (by omega)];exact List.getElem_mem _)
  have hnb:qDN s at_ k=(decide ((nt s.ns k).edge=s.edge)&&decide (max (mu s.ps k-at_) (at_-mu s.ps k)≤1000)):=rfl
  have yes:qDN s at_ k=true→qqn s at_=true:=fun hh=>List.any_eq_true.2 ⟨k,List.mem_range.2 hlt,hh⟩
  have nxt:qDN s at_ k=false→∀i,i<k+1→qDN s at_ i=false:=by
   intro hh i hi
   by_cases ei:i=k
   ·subst ei;exact hh
   exact hno i (by omega)
  generalize nt s.ns k=n at*
  generalize mu s.ps k=q at*
  have wa:=ww (x:=q-at_)
  have wb:=ww (x:=at_-q)
  refine gg rfl (q0i k rfl rfl rfl hx rfl (gg rfl (q09 rfl (fun f=>?_) (fun f=>?_))))
  ·rw[q1n]at f
   refine gg rfl (q0i k rfl rfl rfl hq rfl (gg rfl ?_))
   rw[wa]
   refine q09 rfl (fun f2=>?_) (fun f2=>?_)
   ·rw[q0E]at f2
    refine gg rfl (q0i k rfl rfl rfl hq rfl (gg rfl ?_))
    rw[wb]
    refine q01 rfl (fun f3=>?_) (fun f3=>?_)
    ·rw[q0E]at f3
     refine gg rfl (q04 (gg rfl (q08 rfl rfl rfl trivial ?_)))
     rw[yes (by rw[hnb,decide_eq_true f,decide_eq_true (show max (q-at_) (at_-q)≤1000 by omega)];rfl)]
    rw[q0F]at f3
    have hnn:qDN s at_ k=false:=by rw[hnb,decide_eq_false (show¬max (q-at_) (at_-q)≤1000 by omega)];simp
    exact gg rfl (q04 (hN (k+1) ⟨by omega,nxt hnn⟩ (by omega) (q03 rfl ⟨rfl,trivial⟩ (by rw[w1];rfl))))
   rw[q0F]at f2
   have hnn:qDN s at_ k=false:=by rw[hnb,decide_eq_false (show¬max (q-at_) (at_-q)≤1000 by omega)];simp
   exact gg rfl (q0j rfl (gg rfl (q04 (hN (k+1) ⟨by omega,nxt hnn⟩ (by omega) (q03 rfl ⟨rfl,trivial⟩ (by rw[w1];rfl))))))
  rw[q1Q]at f
  have hnn:qDN s at_ k=false:=by rw[hnb,decide_eq_false f];rfl
  exact gg rfl (q0n rfl (gg rfl (q0j rfl (gg rfl (q04 (hN (k+1) ⟨by omega,nxt hnn⟩ (by omega) (q03 rfl ⟨rfl,trivial⟩ (by rw[w1];rfl))))))))
 rw[q07]at e
 obtain rfl:k=s.ns.length:=by omega
 clear hN
 refine gg rfl (q04 (gg rfl (q08 rfl rfl rfl trivial ?_)))
 have:qqn s at_=false:=by
  unfold qqn
  rw[List.any_eq_false]
  intro i hi
  rw[hno i (List.mem_range.1 hi)];decide
 rw[this]
theorem qKL (kd:Int)(l:List Nat)(k:Nat):q7w kd (l++[k])=q7w kd l++[⟨kd,0,(k:Nat)⟩]:=by
 unfold q7w
 rw[List.map_append];rfl
set_option maxHeartbeats 4000000 in
theorem qIT (kd:Int)(pa pb:Piece)(a b:Sid)(rev:Bool)(ha:SidOk a)(hb:SidOk b)(h1:pa.notches=a.ns)(h2:pb.notches=b.ns)(h3:∀i,i<a.ns.length→(nt a.ns i).edge=a.edge→(q3v a.len b.len rev (mu a.ps i)).2=0):
 PU qGJ [.int .i64 kd,.int .i64 0,pa.enc,pb.enc,ints a.ps,ints b.ps,.int .i64 a.edge,.int .i64 b.edge,.int .i64 a.len,.int .i64 b.len,.bool rev]=some (qqo (q7w kd (qeu a b rev))):=by
 have hlen:=ha.len
 have hfew:=ha.few
 refine q0g (fn:=qtn) rfl (q0a ?_)
 refine gg rfl (q0l (S:=fun k:Nat=>([.int .i64 kd,.int .i64 0,ints a.ps,ints b.ps,.int .i64 a.edge,.int .i64 b.edge,.int .i64 a.len,.int .i64 b.len,.bool rev,.ptr 9 0 0,.ptr 10 0 0,.ref 11 0 ((List.range k).filter (qjY a b rev)).length,q00 k],[none,none,none,none,none,none,none,none,none,some (.row [pa.enc] 7),some (.row [pb.enc] 7),some (.row ((q7w kd ((List.range k).filter (qjY a b rev))).map Iss.enc) 3),none],[0,0,0,0,0,0,0,0,0,0,0,0,0])) (C:=fun k=>k≤a.ns.length) (m:=fun k=>a.ns.length-k) 0 (Nat.zero_le _) (by omega) ?_ ?_)
 ·exact qIe rfl rfl ⟨rfl,rfl,rfl,trivial⟩ rfl rfl rfl rfl
 intro k hk N hN
 refine gg rfl ?_
 rw[List.length_map]
 refine q01 rfl (fun e=>?_) (fun e=>?_)
 ·rw[q06]at e
  have hlt:k<a.ns.length:=by omega
  have w1:=wS (n:=k)
  have hx:(pa.notches.map Ntc.enc)[k]?=some (nt a.ns k).enc:=by rw[h1];exact qv6 hlt
  have hp:=q7f (l:=a.ps) (i:=k) (by omega)
  have hst:=qew (qjY a b rev) k
  have hlb:qjY a b rev k=(decide ((nt a.ns k).edge=a.edge)&&(decide ((q3v a.len b.len rev (mu a.ps k)).2≠0) ||!qqn b (q3v a.len b.len rev (mu a.ps k)).1)):=rfl
  have hfl:((List.range k).filter (qjY a b rev)).length≤k:=by
   have:=List.length_filter_le (qjY a b rev) (List.range k)
   rw[List.length_range]at this;exact this
  have h3k:=h3 k hlt
  generalize nt a.ns k=n at*
  generalize mu a.ps k=q at*
  have pbd:=qBw a.len b.len rev q
  have hP:=qpK a.len b.len rev q
  have hH:=qJN pb b (q3v a.len b.len rev q).1 h2 hb pbd.1 pbd.2
  generalize (List.range k).filter (qjY a b rev)=L at*
  have hul:(q7w kd L).length=L.length:=by simp[q7w]
  have no:qjY a b rev k=false→(List.range (k+1)).filter (qjY a b rev)=L:=fun h=>by rw[hst,h];simp
  have ye:qjY a b rev k=true→(List.range (k+1)).filter (qjY a b rev)=L++[k]:=fun h=>by rw[hst,h];rfl
  refine gg rfl (q0i k rfl rfl rfl hx rfl (gg rfl (q01 rfl (fun f=>?_) (fun f=>?_))))
  ·rw[q0u]at f
   have hst0:=no (by rw[hlb,decide_eq_false f];rfl)
   refine gg rfl (q04 (hN (k+1) hlt (by omega) (qIe rfl rfl ⟨rfl,rfl,q05 q0L _,trivial⟩ rfl rfl rfl ?_)))
   rw[hst0,w1];rfl
  rw[q0z]at f
  have f2:=h3k f
  refine gg rfl (q0i k rfl rfl rfl hp rfl (gg rfl (q02 rfl rfl hP (gg rfl (q02 rfl rfl hH ?_)))))
  cases hh:qqn b (q3v a.len b.len rev q).1 with
  |true=>
   have hst0:=no (by rw[hlb,hh,f2];simp)
   refine gg rfl (q0j rfl (gg rfl (q04 (hN (k+1) hlt (by omega) (qIe rfl rfl ⟨rfl,rfl,q05 q0L _,trivial⟩ rfl rfl rfl ?_)))))
   rw[hst0,w1];rfl
  |false=>
   have hst1:=ye (by rw[hlb,hh,decide_eq_true f];simp)
   refine gg rfl (q0d rfl (gg rfl (q1b rfl rfl rfl rfl rfl rfl (by simp[hul]) (Nat.zero_le _) (by simp[q0M];omega) ?_)))
   refine gg rfl (q04 (hN (k+1) hlt (by omega) (qIe rfl rfl ⟨rfl,rfl,?_,trivial⟩ rfl rfl rfl ?_)))
   ·rw[List.all_append,q05 q0L];rfl
   rw[hst1,w1,qKL]
   rw[show(L++[k]).length=L.length+1 by simp,List.map_append]
   rfl
 rw[q07]at e
 obtain rfl:k=a.ns.length:=by omega
 clear hN
 refine gg rfl (q04 (gg rfl (q08 rfl rfl rfl ⟨q2s (by simp[q7w]) (q0W qeV _),trivial⟩ ?_)))
 rw[q2t (by simp[q7w])];rfl
end Go.F
