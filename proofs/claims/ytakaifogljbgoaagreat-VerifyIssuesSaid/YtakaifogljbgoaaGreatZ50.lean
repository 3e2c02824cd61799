/- Parts of the proof, part 50: VR3, Lgt, V11, Pl1, V12, V14, VR4, VR5, VR6, VR7, VIss. -/
import Derived.Test.YtakaifogljbgoaaGreatZ49
import Derived.Test.YtakaifogljbgoaaGreatZ48
set_option linter.all false
namespace Go.F
attribute [local irreducible] IntKind.wrap wpM
theorem at_in {p:Piece}{m:Int}{q:Nat}(hp:(q0S p m).2=0){i:Nat}(hi:i<p.notches.length)(he:(nt p.notches i).edge=(q:Nat)):0≤mu (q0S p m).1 i∧mu (q0S p m).1 i≤qye p m q:=by
 obtain⟨e1,e2⟩:=qJu hp
 have hat:mu (q0S p m).1 i=(q1w p (q0p p m).1 (nt p.notches i)).1:=by
  rw[e1,qjO (by simpa using hi),List.getElem_map,qv5 hi]
 have hz:=e2 (nt p.notches i) (by rw[qv5 hi];exact List.getElem_mem _)
 rw[hat]
 unfold q1w at hz⊢
 rw[he]at hz⊢
 split at hz
 ·cases hz
 rename_i g1
 rw[if_neg g1]
 split at hz
 ·rename_i g2;exact absurd hz g2
 rename_i g2
 rw[if_neg g2]
 split at hz
 ·rename_i g3;exact absurd hz g3
 rename_i g3
 rw[if_neg g3]
 exact qKc hz
theorem qJv {p:Piece}{m to:Int}{e:Int}{rev:Bool}(hg:(q0p p m).2=0)(hp:(q0S p m).2=0)(h0:0≤e)(hq:e.toNat<p.edges.length)(h1:0≤to)(h2:to≤1099511627776){i:Nat}(hi:i<p.notches.length)(he:(nt p.notches i).edge=e):
 (q3v (qye p m e.toNat) to rev (mu (q0S p m).1 i)).2=0:=by
 have hr:=at_in (q:=e.toNat) hp hi (by omega)
 have hl1:1≤qye p m e.toNat:=qKd (qyg hg hq)
 have hl2:=qBz hg hq
 rw[qDR]
 unfold q4y
 omega
set_option maxRecDepth 100000 in
set_option maxHeartbeats 8000000 in
theorem qJ2 (s:Sty)(z:Nat)(h:SewOk s z 0)(h1:s.seams.length=1)(pa:(q0S (pcA s (sw s.seams 0)) (mz s z)).2=0)(pb:(q0S (pcB s (sw s.seams 0)) (mz s z)).2=0):
 PU qE0 [s.enc,.int .i64 z]=some (.tup [qqo (qDO s z (sw s.seams 0)),.int .i64 0]):=by
 have hL:=qGo s z 0 h
 obtain⟨hz,hk,hea,heb,hga,hgb,hca⟩:=h
 have hx:=qjN hk
 obtain⟨a1,a2,a3,a4⟩:=q5a hea
 obtain⟨b1,b2,b3,b4⟩:=q5a heb
 have soA:SidOk (qjZ s z (sw s.seams 0)):=qGk pa
 have soB:SidOk (qk0 s z (sw s.seams 0)):=qGk pb
 have blA:=qBz hga a4
 have blB:=qBz hgb b4
 have hA:PU qGJ [.int .i64 1,.int .i64 0,(pcA s (sw s.seams 0)).enc,(pcB s (sw s.seams 0)).enc,ints (q0S (pcA s (sw s.seams 0)) (mz s z)).1,ints (q0S (pcB s (sw s.seams 0)) (mz s z)).1,.int .i64 (sw s.seams 0).ea,.int .i64 (sw s.seams 0).eb,.int .i64 (qiX s z (sw s.seams 0)),.int .i64 (qiY s z (sw s.seams 0)),.bool (sw s.seams 0).rev]=some (qqo (q7w 1 (qeu (qjZ s z (sw s.seams 0)) (qk0 s z (sw s.seams 0)) (sw s.seams 0).rev))):=
  qIT 1 (pcA s (sw s.seams 0)) (pcB s (sw s.seams 0)) (qjZ s z (sw s.seams 0)) (qk0 s z (sw s.seams 0)) (sw s.seams 0).rev soA soB rfl rfl fun i hi he=>qJv (p:=pcA s (sw s.seams 0)) hga pa a3 a4 blB.1 blB.2 hi he
 have hB:PU qGJ [.int .i64 2,.int .i64 0,(pcB s (sw s.seams 0)).enc,(pcA s (sw s.seams 0)).enc,ints (q0S (pcB s (sw s.seams 0)) (mz s z)).1,ints (q0S (pcA s (sw s.seams 0)) (mz s z)).1,.int .i64 (sw s.seams 0).eb,.int .i64 (sw s.seams 0).ea,.int .i64 (qiY s z (sw s.seams 0)),.int .i64 (qiX s z (sw s.seams 0)),.bool (sw s.seams 0).rev]=some (qqo (q7w 2 (qeu (qk0 s z (sw s.seams 0)) (qjZ s z (sw s.seams 0)) (sw s.seams 0).rev))):=
  qIT 2 (pcB s (sw s.seams 0)) (pcA s (sw s.seams 0)) (qk0 s z (sw s.seams 0)) (qjZ s z (sw s.seams 0)) (sw s.seams 0).rev soB soA rfl rfl fun i hi he=>qJv (p:=pcB s (sw s.seams 0)) hgb pb b3 b4 blA.1 blA.2 hi he
 have qA:=q9I (pcA s (sw s.seams 0)) (mz s z) (hca _ (q7e a2))
 have qB:=q9I (pcB s (sw s.seams 0)) (mz s z) (hca _ (q7e b2))
 rw[pa]at qA
 rw[pb]at qB
 have lA:=qtb (qjZ s z (sw s.seams 0)) (qk0 s z (sw s.seams 0)) (sw s.seams 0).rev
 have lB:=qtb (qk0 s z (sw s.seams 0)) (qjZ s z (sw s.seams 0)) (sw s.seams 0).rev
 have fA:=soA.few
 have fB:=soB.few
 have hu:qDO s z (sw s.seams 0)=q7w 1 (qeu (qjZ s z (sw s.seams 0)) (qk0 s z (sw s.seams 0)) (sw s.seams 0).rev)++q7w 2 (qeu (qk0 s z (sw s.seams 0)) (qjZ s z (sw s.seams 0)) (sw s.seams 0).rev):=rfl
 have hpA:(s.pieces.map Piece.enc)[(sw s.seams 0).pa.toNat]?=some (pcA s (sw s.seams 0)).enc:=q4q a2
 have hpB:(s.pieces.map Piece.enc)[(sw s.seams 0).pb.toNat]?=some (pcB s (sw s.seams 0)).enc:=q4q b2
 have hmz:(s.mults.map q00)[z]?=some (q00 (mz s z)):=q7f hz
 have ul:∀(kd:Int) (l:List Nat),(q7w kd l).length=l.length:=fun kd l=>by simp[q7w]
 rw[hu]
 have lA':(q7w 1 (qeu (qjZ s z (sw s.seams 0)) (qk0 s z (sw s.seams 0)) (sw s.seams 0).rev)).length≤1000:=by rw[ul];omega
 have lB':(q7w 2 (qeu (qk0 s z (sw s.seams 0)) (qjZ s z (sw s.seams 0)) (sw s.seams 0).rev)).length≤1000:=by rw[ul];omega
 clear lA lB fA fB ul hu soA soB
 generalize q7w 1 (qeu (qjZ s z (sw s.seams 0)) (qk0 s z (sw s.seams 0)) (sw s.seams 0).rev)=LA at*
 generalize q7w 2 (qeu (qk0 s z (sw s.seams 0)) (qjZ s z (sw s.seams 0)) (sw s.seams 0).rev)=LB at*
 generalize qiX s z (sw s.seams 0)=nA at*
 generalize qiY s z (sw s.seams 0)=nB at*
 generalize (q0S (pcA s (sw s.seams 0)) (mz s z)).1=PA at*
 generalize (q0S (pcB s (sw s.seams 0)) (mz s z)).1=PB at*
 generalize pcA s (sw s.seams 0)=cA at*
 generalize pcB s (sw s.seams 0)=cB at*
 generalize sw s.seams 0=m at*
 have hn:∀{x:Int} {P:Prop},nqb x x=true→P:=fun h=>absurd rfl (q0u.1 h)
 refine q0g (fn:=qme) rfl (q0a ?_)
 refine gg rfl (q09 rfl (fun g=>?_) (fun g=>?_))
 ·rw[q06]at g;omega
 refine gg rfl ?_
 rw[List.length_map]
 refine q01 rfl (fun g=>?_) (fun g=>?_)
 ·rw[q0E]at g;omega
 refine gg rfl (q0l (S:=fun k:Nat=>([.int .i64 z,.ptr 1 0 0,.ref 2 0 (if k=0 then []else LA++LB).length,q00 k],[none,some (.row [s.enc] 7),some (.row ((if k=0 then []else LA++LB).map Iss.enc) 3),none],[0,0,0,0])) (C:=fun k=>k≤1) (m:=fun k=>1-k) 0 (Nat.zero_le _) (by omega) ?_ ?_)
 ·exact q03 rfl ⟨rfl,rfl,trivial⟩ rfl
 intro k hk1 N hN
 refine gg rfl ?_
 rw[List.length_map,h1]
 refine q01 rfl (fun e=>?_) (fun e=>?_)
 ·rw[q06]at e
  obtain rfl:k=0:=by omega
  refine gg rfl (q02 rfl rfl hL (gg rfl (q01 rfl hn (fun _=>?_))))
  refine gg rfl (q0i 0 rfl rfl rfl hx rfl (gg rfl (q0i m.pa.toNat rfl rfl (by omega) hpA rfl ?_)))
  refine gg rfl (q0i m.pb.toNat rfl rfl (by omega) hpB rfl ?_)
  refine gg rfl (q0i z rfl rfl rfl hmz rfl (gg rfl (q02 rfl rfl qA (gg rfl (q01 rfl hn (fun _=>?_))))))
  refine gg rfl (q0i z rfl rfl rfl hmz rfl (gg rfl (q02 rfl rfl qB (gg rfl (q01 rfl hn (fun _=>?_))))))
  refine gg rfl (q02 rfl rfl hA (gg rfl (qAq rfl rfl rfl (q1o (n:=3) (fun _=>rfl) _) rfl (Nat.zero_le _) (by simp[q0M];omega) ?_)))
  refine gg rfl (q02 rfl rfl hB (gg rfl (qAq rfl rfl rfl (q1o (n:=3) (fun _=>rfl) _) (by simp) (Nat.zero_le _) (by simp[q0M];omega) ?_)))
  refine gg rfl (q04 (hN 1 (by omega) (by omega) (qIe rfl rfl ⟨rfl,?_,trivial⟩ rfl rfl rfl ?_)))
  ·simp only[List.all_append,q05 q0L];rfl
  have w0:IntKind.i64.wrap (((0:Nat):Int)+1)=((1:Nat):Int):=wrap64 (by decide) (by decide)
  show _=(([.int .i64 z,.ptr 1 0 0,.ref 2 0 (LA++LB).length,q00 ((1:Nat):Int)],[none,some (.row [s.enc] 7),some (.row ((LA++LB).map Iss.enc) 3),none],[0,0,0,0]):Kept)
  rw[←w0,List.map_append,show(LA++LB).length=0+(LA.map Iss.enc).length+(LB.map Iss.enc).length by simp]
  rfl
 rw[q07]at e
 obtain rfl:k=1:=by omega
 clear hN
 refine gg rfl (q04 (gg rfl (q08 rfl rfl rfl ⟨q2s (by simp) (q0W qeV _),trivial⟩ ?_)))
 rw[q2t (by simp)];rfl
end Go.F

namespace Go.F
theorem qGL {f:FuncId}{fn:KFn}{args:List D}{Q:D→Prop}(hf:tab f=some fn)(hw:wp TT (shr TT 6) 0 fn.code (enter args) empty qhZ 0 (qeY fn fun d h _ _=>ws2 h d Q)):∃r,Q r∧PU f args=some r:=by
 obtain⟨F,cd,h1,h2,h3⟩:=tt_ok.tab f fn hf
 obtain⟨d,h',z',nx',q1,e1⟩:=qe2 tt_ok (qsw tt_ok 6) h2 h3 hw
 obtain⟨d',h4,h5⟩:=qAU q1
 refine⟨d',h5,qua (e1.up.mono fun M hM=>?_)⟩
 obtain⟨M',rfl,hM'⟩:=hM
 simp only[EM,env,h1,h2]
 have hM2:body prog (env prog q6K qmD M') (qmD f) F cd args empty qhZ 0=some (d,h',z',nx'):=hM'
 rw[hM2]
 exact h4
theorem qFc {f:FuncId}{fn:KFn}{args:List D}{R:Prop}(hf:tab f=some fn)
 (hw:wpM TT (shr TT 6) 0 [.code fn.code] .normal (enter args) empty qhZ 0 (qeY fn fun d h _ _=>ws2 h d fun d=>∃b:Bool,d=.bool b∧(b=true→R))):∃b:Bool,PU f args=some (.bool b)∧(b=true→R):=by
 simp only[wpM]at hw
 obtain⟨r,⟨b,rfl,hb⟩,h2⟩:=qGL hf hw
 exact⟨b,h2,hb⟩
attribute [local irreducible] IntKind.wrap wpM
section
variable {T:Tab}{sh:Shr}{nx0:Nat}{t:q0x}{h:q0e}{z:Frz}{nx:Nat}
theorem q7q {fn:KFn}{ex:Ex}{Q:D→Prop}{d d':D}{rows:List (List D×Nat×Nat)}(hex:(match ex with|.exit _=>false|_=>true)=true)(hd:dres t h fn.res=some d)(hs:dr2 h d=some (rows,d'))(hr:q48 rows)(he:Q d'):
 wpM T sh nx0 [] ex t h z nx (qeY fn fun d h _ _=>ws2 h d Q):=by
 refine q04 ?_
 cases ex with
 |exit i=>cases hex
 |normal=>exact q6v hd (qeT hs hr he)
 |ret=>exact q6v hd (qeT hs hr he)
end
structure PcL (p:Piece):Prop where
 edges:p.edges.length≤20
 corners:p.corners.length≤20
 widths:p.widths.length≤20
 notches:p.notches.length≤20
 line:∀i,i<p.edges.length→(eg p.edges i).line.length≤80∧(eg p.edges i).name.size≤100
theorem qpa (p:Piece):p.enc=.agg [.str p.name,.lst (p.edges.map Edge.enc),.int .i64 p.grain,.lst (p.notches.map Ntc.enc),.lst (p.corners.map Spot.enc),.lst (p.widths.map q00),.bool p.match_]:=rfl
set_option maxHeartbeats 8000000 in
theorem qfV (p:Piece)(M:Nat)(hM:M≤80):∃b:Bool,PU qlH [p.enc,.int .i64 M]=some (.bool b)∧(b=true→PcL p):=by
 refine qFc (fn:=qkX) rfl ?_
 rw[qpa]
 refine gg rfl (q09 rfl (fun g0=>?_) (fun g0=>?_))
 ·exact gg rfl (q0h rfl (gg rfl (q0h rfl (gg rfl (q0d rfl (gg rfl (q7q rfl rfl rfl trivial ⟨false,rfl,fun h=>by cases h⟩)))))))
 refine gg rfl (q09 rfl (fun g1=>?_) (fun g1=>?_))
 ·exact gg rfl (q0h rfl (gg rfl (q0d rfl (gg rfl (q7q rfl rfl rfl trivial ⟨false,rfl,fun h=>by cases h⟩)))))
 refine gg rfl (q09 rfl (fun g2=>?_) (fun g2=>?_))
 ·exact gg rfl (q0d rfl (gg rfl (q7q rfl rfl rfl trivial ⟨false,rfl,fun h=>by cases h⟩)))
 refine gg rfl (q01 rfl (fun g3=>?_) (fun g3=>?_))
 ·exact gg rfl (q7q rfl rfl rfl trivial ⟨false,rfl,fun h=>by cases h⟩)
 rw[q07,List.length_map]at g0 g1 g2 g3
 refine gg rfl (q0l (S:=fun a:Nat×Nat=>([.int .i64 M,.ptr 1 0 0,q00 a.2,q00 a.1],[none,some (.row [p.enc] 7),none,none],[0,0,0,0])) (C:=fun a=>a.1≤p.edges.length∧a.2≤80*a.1∧∀j,j<a.1→(eg p.edges j).line.length≤80∧(eg p.edges j).name.size≤100) (m:=fun a=>p.edges.length-a.1) (0,0) ⟨Nat.zero_le _,Nat.zero_le _,fun j h=>by simp at h⟩ (by show p.edges.length-0<_;omega) ?_ ?_)
 ·exact q03 rfl ⟨rfl,trivial⟩ rfl
 rintro⟨k,n⟩ ⟨hk,hn,hj⟩ N hN
 simp only at hk hn hj
 simp only[qpa]
 refine gg rfl ?_
 rw[List.length_map]
 refine q01 rfl (fun e=>?_) (fun e=>?_)
 ·rw[q06]at e
  have hlt:k<p.edges.length:=by omega
  have w1:=wS (n:=k)
  refine gg rfl (q0i k rfl rfl rfl (q1K hlt) rfl (gg rfl ?_))
  rw[List.length_map]
  refine q09 rfl (fun f1=>?_) (fun f1=>?_)
  ·exact gg rfl (q0d rfl (gg rfl (q04 (gg rfl (q7q rfl rfl rfl trivial ⟨false,rfl,fun h=>by cases h⟩)))))
  rw[q07]at f1
  refine gg rfl (q0i k rfl rfl rfl (q1K hlt) rfl (gg rfl (q01 rfl (fun f2=>?_) (fun f2=>?_))))
  ·exact gg rfl (q04 (gg rfl (q7q rfl rfl rfl trivial ⟨false,rfl,fun h=>by cases h⟩)))
  rw[q07]at f2
  have w2:IntKind.i64.wrap ((n:Int)+((eg p.edges k).line.length:Nat))=((n+(eg p.edges k).line.length:Nat):Int):=ww
  refine gg rfl (q0i k rfl rfl rfl (q1K hlt) rfl (gg rfl ?_))
  rw[List.length_map]
  refine q04 (hN (k+1,n+(eg p.edges k).line.length) ⟨hlt,by show _≤80*(k+1);omega,fun j hjk=>?_⟩ (by show p.edges.length-(k+1)<p.edges.length-k;omega) (q03 rfl ⟨rfl,trivial⟩ (by rw[w1,w2];rfl)))
  have hjk:j<k+1:=hjk
  by_cases ej:j=k
  ·subst ej;omega
  exact hj j (by omega)
 rw[q07]at e
 obtain rfl:k=p.edges.length:=by omega
 exact gg rfl (q04 (gg rfl (q7q rfl rfl rfl trivial ⟨_,rfl,fun _=>⟨by omega,by omega,by omega,by omega,hj⟩⟩)))
theorem qub (p:Piece):∃b:Bool,PU qlH [p.enc,.int .i64 80]=some (.bool b)∧(b=true→PcL p):=qfV p 80 (Nat.le_refl _)
structure StyL (s:Sty):Prop where
 name:s.name.size≤100
 sizes:s.sizes.length≤30
 mults:s.mults.length≤30
 uses:s.uses.length≤30
 seams:s.seams.length≤30
 ops:s.ops.length≤30
 pieces:s.pieces.length≤14
 size:∀i (h:i<s.sizes.length),s.sizes[i].size≤100
 piece:∀i,i<s.pieces.length→PcL (pc s.pieces i)
theorem StyL.B {s:Sty}(h:StyL s):StyB s where
 sizes:=Nat.le_trans h.sizes (by decide)
 size:=fun x hx=>by
  obtain⟨i,hi,rfl⟩:=List.mem_iff_getElem.1 hx
  exact Nat.le_trans (h.size i hi) (by decide)
 mults:=Nat.le_trans h.mults (by decide)
 pieces:=Nat.le_trans h.pieces (by decide)
 uses:=Nat.le_trans h.uses (by decide)
 seams:=Nat.le_trans h.seams (by decide)
 ops:=Nat.le_trans h.ops (by decide)
 corners:=fun p hp=>by
  obtain⟨i,hi,rfl⟩:=List.mem_iff_getElem.1 hp
  exact q6s hi▸Nat.le_trans (h.piece i hi).corners (by decide)
 widths:=fun p hp=>by
  obtain⟨i,hi,rfl⟩:=List.mem_iff_getElem.1 hp
  exact q6s hi▸Nat.le_trans (h.piece i hi).widths (by decide)
 notches:=fun p hp=>by
  obtain⟨i,hi,rfl⟩:=List.mem_iff_getElem.1 hp
  exact q6s hi▸Nat.le_trans (h.piece i hi).notches (by decide)
set_option maxHeartbeats 8000000 in
theorem qii (s:Sty):∃b:Bool,PU qwb [s.enc]=some (.bool b)∧(b=true→StyL s):=by
 refine qFc (fn:=qka) rfl ?_
 rw[qeQ]
 refine gg rfl (q09 rfl (fun g0=>?_) (fun g0=>?_))
 ·exact gg rfl (q0h rfl (gg rfl (q0h rfl (gg rfl (q0h rfl (gg rfl (q0h rfl (gg rfl (q0h rfl (gg rfl (q0d rfl (gg rfl (q7q rfl rfl rfl trivial ⟨false,rfl,fun h=>by cases h⟩)))))))))))))
 refine gg rfl (q09 rfl (fun g1=>?_) (fun g1=>?_))
 ·exact gg rfl (q0h rfl (gg rfl (q0h rfl (gg rfl (q0h rfl (gg rfl (q0h rfl (gg rfl (q0d rfl (gg rfl (q7q rfl rfl rfl trivial ⟨false,rfl,fun h=>by cases h⟩)))))))))))
 refine gg rfl (q09 rfl (fun g2=>?_) (fun g2=>?_))
 ·exact gg rfl (q0h rfl (gg rfl (q0h rfl (gg rfl (q0h rfl (gg rfl (q0d rfl (gg rfl (q7q rfl rfl rfl trivial ⟨false,rfl,fun h=>by cases h⟩)))))))))
 refine gg rfl (q09 rfl (fun g3=>?_) (fun g3=>?_))
 ·exact gg rfl (q0h rfl (gg rfl (q0h rfl (gg rfl (q0d rfl (gg rfl (q7q rfl rfl rfl trivial ⟨false,rfl,fun h=>by cases h⟩)))))))
 refine gg rfl (q09 rfl (fun g4=>?_) (fun g4=>?_))
 ·exact gg rfl (q0h rfl (gg rfl (q0d rfl (gg rfl (q7q rfl rfl rfl trivial ⟨false,rfl,fun h=>by cases h⟩)))))
 refine gg rfl (q09 rfl (fun g5=>?_) (fun g5=>?_))
 ·exact gg rfl (q0d rfl (gg rfl (q7q rfl rfl rfl trivial ⟨false,rfl,fun h=>by cases h⟩)))
 refine gg rfl (q01 rfl (fun g6=>?_) (fun g6=>?_))
 ·exact gg rfl (q7q rfl rfl rfl trivial ⟨false,rfl,fun h=>by cases h⟩)
 rw[q07]at g0 g1 g2 g3 g4 g5 g6
 rw[List.length_map]at g1 g2 g3 g4 g5 g6
 refine gg rfl (q0l (S:=fun k:Nat=>([.ptr 0 0 0,q00 k],[some (.row [s.enc] 7),none],[0,0])) (C:=fun k=>k≤s.sizes.length∧∀j (h:j<s.sizes.length),j<k→s.sizes[j].size≤100) (m:=fun k=>s.sizes.length-k) 0 ⟨Nat.zero_le _,fun j _ h=>by omega⟩ (by omega) ?_ ?_)
 ·exact q03 rfl ⟨rfl,trivial⟩ rfl
 rintro k ⟨hk,hj⟩ N hN
 simp only[qeQ]
 refine gg rfl ?_
 rw[List.length_map]
 refine q01 rfl (fun e=>?_) (fun e=>?_)
 ·rw[q06]at e
  have hlt:k<s.sizes.length:=by omega
  have w1:=wS (n:=k)
  have hx:(s.sizes.map D.str)[k]?=some (.str s.sizes[k]):=q1A hlt
  refine gg rfl (q0i k rfl rfl rfl hx rfl (gg rfl (q01 rfl (fun f1=>?_) (fun f1=>?_))))
  ·exact gg rfl (q04 (gg rfl (q7q rfl rfl rfl trivial ⟨false,rfl,fun h=>by cases h⟩)))
  rw[q07]at f1
  refine gg rfl (q04 (hN (k+1) ⟨hlt,fun j hj2 hjk=>?_⟩ (by omega) (q03 rfl ⟨rfl,trivial⟩ (by rw[w1];rfl))))
  by_cases ej:j=k
  ·subst ej;omega
  exact hj j hj2 (by omega)
 rw[q07]at e
 obtain rfl:k=s.sizes.length:=by omega
 clear hN
 refine gg rfl (q04 (gg rfl (q0l (S:=fun k:Nat=>([.ptr 0 0 0,q00 k],[some (.row [s.enc] 7),none],[0,0])) (C:=fun k=>k≤s.pieces.length∧∀j,j<k→PcL (pc s.pieces j)) (m:=fun k=>s.pieces.length-k) 0 ⟨Nat.zero_le _,fun j h=>by omega⟩ (by omega) ?_ ?_)))
 ·exact q03 rfl ⟨rfl,trivial⟩ rfl
 rintro k ⟨hk,hp⟩ N hN
 simp only[qeQ]
 refine gg rfl ?_
 rw[List.length_map]
 refine q01 rfl (fun e=>?_) (fun e=>?_)
 ·rw[q06]at e
  have hlt:k<s.pieces.length:=by omega
  have w1:=wS (n:=k)
  obtain⟨b,hb,hbs⟩:=qub (pc s.pieces k)
  refine gg rfl (q0i k rfl rfl rfl (q4q hlt) rfl (gg rfl (q09 rfl (fun f1=>?_) (fun f1=>?_))))
  ·exact gg rfl (q0d rfl (gg rfl (q04 (gg rfl (q7q rfl rfl rfl trivial ⟨false,rfl,fun h=>by cases h⟩)))))
  refine gg rfl (q0i k rfl rfl rfl (q4q hlt) rfl (gg rfl (q02 rfl rfl hb (gg rfl ?_))))
  cases b with
  |false=>
   exact q0d rfl (gg rfl (q04 (gg rfl (q7q rfl rfl rfl trivial ⟨false,rfl,fun h=>by cases h⟩))))
  |true=>
   refine q0j rfl (gg rfl (q04 (hN (k+1) ⟨hlt,fun j hjk=>?_⟩ (by omega) (q03 rfl ⟨rfl,trivial⟩ (by rw[w1];rfl)))))
   by_cases ej:j=k
   ·subst ej;exact hbs rfl
   exact hp j (by omega)
 rw[q07]at e
 obtain rfl:k=s.pieces.length:=by omega
 exact gg rfl (q04 (gg rfl (q7q rfl rfl rfl trivial ⟨_,rfl,fun _=>⟨by omega,by omega,by omega,by omega,by omega,by omega,by omega,fun i hi=>hj i hi hi,hp⟩⟩)))
end Go.F

namespace Go.F
attribute [local irreducible] IntKind.wrap wpM
def isA (l:List Iss)(i:Nat):Iss:=l.getD i ⟨0,0,0⟩
theorem qBu {l:List Iss}{i:Nat}(h:i<l.length):isA l i=l[i]:=by simp[isA,h]
theorem qBv {l:List Iss}{i:Nat}(h:i<l.length):(l.map Iss.enc)[i]?=some (isA l i).enc:=by simp[isA,h]
theorem qGj (x y:Iss):(!(eqb x.kind y.kind&&(eqb x.a y.a&&(eqb x.b y.b&&true))))=decide (x≠y):=by
 rw[q2e,q2e,q2e]
 by_cases h:x=y
 ·subst h;simp
 rw[decide_eq_true h]
 have:¬(x.kind=y.kind∧x.a=y.a∧x.b=y.b):=by
  rintro⟨h1,h2,h3⟩
  apply h
  cases x;cases y;simp_all
 simp only[Bool.and_true,Bool.not_eq_true',Bool.and_eq_false_imp,decide_eq_true_eq,decide_eq_false_iff_not]
 intro h1 h2 h3
 exact this ⟨h1,h2,h3⟩
theorem qGu (p q:List Iss)(hp:p.length<4611686018427387904):PU qjh [qqo p,qqo q]=some (.bool (decide (p=q))):=by
 refine q0g (fn:=qaj) rfl (q0a ?_)
 refine gg rfl (q01 rfl (fun h1=>?_) (fun h1=>?_))
 ·refine gg rfl (q08 rfl rfl rfl trivial ?_)
  rw[q0u,List.length_map,List.length_map]at h1
  have:p≠q:=by rintro rfl;exact h1 rfl
  simp[this]
 rw[q0z,List.length_map,List.length_map]at h1
 refine gg rfl (q0l (S:=fun k:Nat=>([qqo p,qqo q,q00 k],[none,none,none],[0,0,0])) (C:=fun k=>k≤p.length∧∀i,i<k→isA p i=isA q i) (m:=fun k=>p.length-k) 0 ⟨by omega,fun i hi=>by omega⟩ (by omega) ?_ ?_)
 ·exact q03 rfl trivial (by simp[qqo,q00])
 intro k ⟨hk,hall⟩ N hN
 refine gg rfl (q01 rfl (fun g1=>?_) (fun g1=>?_))
 ·rw[q06,List.length_map]at g1
  have hlt:k<p.length:=by omega
  have w1:=wS (n:=k)
  refine gg rfl (q0i k rfl rfl rfl (qBv hlt) rfl (gg rfl (q0i k rfl rfl rfl (qBv (by omega)) rfl ?_)))
  refine gg rfl (q01 rfl (fun g2=>?_) (fun g2=>?_))
  ·refine gg rfl (q04 (gg rfl (q08 rfl rfl rfl trivial ?_)))
   have g2:(!(eqb (isA p k).kind (isA q k).kind&&(eqb (isA p k).a (isA q k).a&&(eqb (isA p k).b (isA q k).b&&true))))=true:=g2
   rw[qGj,decide_eq_true_eq]at g2
   have:p≠q:=by rintro rfl;exact g2 rfl
   simp[this]
  refine gg rfl (q04 ?_)
  have g2:(!(eqb (isA p k).kind (isA q k).kind&&(eqb (isA p k).a (isA q k).a&&(eqb (isA p k).b (isA q k).b&&true))))=false:=g2
  rw[qGj,decide_eq_false_iff_not,Decidable.not_not]at g2
  refine hN (k+1) ⟨by omega,fun i hi=>?_⟩ (by omega) (q03 rfl trivial (by simp[qqo,q00,w1]))
  by_cases hik:i<k
  ·exact hall i hik
  obtain rfl:i=k:=by omega
  exact g2
 rw[q07,List.length_map]at g1
 refine gg rfl (q04 (gg rfl (q08 rfl rfl rfl trivial ?_)))
 have:p=q:=by
  refine List.ext_getElem (by omega) fun i hi1 hi2=>?_
  rw[←qBu hi1,←qBu hi2];exact hall i (by omega)
 simp[this]
set_option maxHeartbeats 4000000 in
theorem qIa (s:Sty):∃b:Bool,PU qCb [s.enc]=some (.bool b)∧(b=true→StyL s∧s.pieces.length≤4∧s.sizes.length≤4∧s.seams.length≤6):=by
 obtain⟨b,hb,hbs⟩:=qii s
 refine qFc (fn:=qrI) rfl ?_
 rw[qeQ]at hb
 rw[qeQ]
 refine gg rfl (q02 rfl rfl hb ?_)
 cases b with
 |false=>
  exact gg rfl (q0h rfl (gg rfl (q0h rfl (gg rfl (q0h rfl (gg rfl (q0d rfl (gg rfl (q7q rfl rfl rfl trivial ⟨false,rfl,fun h=>by cases h⟩)))))))))
 |true=>
  have hL:=hbs rfl
  refine gg rfl (q0n rfl (gg rfl ?_))
  rw[List.length_map]
  refine q09 rfl (fun f1=>?_) (fun f1=>?_)
  ·exact gg rfl (q0h rfl (gg rfl (q0d rfl (gg rfl (q7q rfl rfl rfl trivial ⟨false,rfl,fun h=>by cases h⟩)))))
  rw[q07]at f1
  refine gg rfl ?_
  rw[List.length_map]
  refine q09 rfl (fun f2=>?_) (fun f2=>?_)
  ·exact gg rfl (q0d rfl (gg rfl (q7q rfl rfl rfl trivial ⟨false,rfl,fun h=>by cases h⟩)))
  rw[q07]at f2
  refine gg rfl ?_
  rw[List.length_map]
  refine q01 rfl (fun f3=>?_) (fun f3=>?_)
  ·exact gg rfl (q7q rfl rfl rfl trivial ⟨false,rfl,fun h=>by cases h⟩)
  rw[q07]at f3
  refine gg rfl (q0l (S:=fun k:Nat=>([.ptr 0 0 0,q00 k],[some (.row [s.enc] 7),none],[0,0])) (C:=fun k=>k≤s.pieces.length) (m:=fun k=>s.pieces.length-k) 0 (Nat.zero_le _) (by omega) ?_ ?_)
  ·exact q03 rfl ⟨rfl,trivial⟩ rfl
  intro k hk N hN
  refine gg rfl ?_
  rw[List.length_map]
  refine q01 rfl (fun e=>?_) (fun e=>?_)
  ·rw[q06]at e
   have hlt:k<s.pieces.length:=by omega
   have w1:=wS (n:=k)
   obtain⟨b2,hb2,_⟩:=qfV (pc s.pieces k) 40 (by decide)
   refine gg rfl (q0i k rfl rfl rfl (q4q hlt) rfl (gg rfl (q02 rfl rfl hb2 ?_)))
   cases b2 with
   |false=>
    exact gg rfl (q0d rfl (gg rfl (q04 (gg rfl (q7q rfl rfl rfl trivial ⟨false,rfl,fun h=>by cases h⟩)))))
   |true=>
    exact gg rfl (q0j rfl (gg rfl (q04 (hN (k+1) hlt (by omega) (q03 rfl ⟨rfl,trivial⟩ (by rw[w1];rfl))))))
  exact gg rfl (q04 (gg rfl (q7q rfl rfl rfl trivial ⟨true,rfl,fun _=>⟨hL,by omega,by omega,by omega⟩⟩)))
end Go.F

namespace Go.F
mutual
def eqD:D→D→Bool
 |.bool a,.bool b=>a==b
 |.int k n,.int k' n'=>decide (k=k')&&decide (n=n')
 |.str a,.str b=>decide (a=b)
 |.lst l,.lst m=>eqL l m
 |.agg l,.agg m=>eqL l m
 |.tup l,.tup m=>eqL l m
 |_,_=>false
def eqL:List D→List D→Bool
 |[],[]=>true
 |a::l,b::m=>eqD a b&&eqL l m
 |_,_=>false
end
mutual
theorem qFD:∀{a b:D},eqD a b=true→a=b
 |.bool a,.bool b,h=>by simp[eqD]at h;rw[h]
 |.int k n,.int k' n',h=>by simp[eqD]at h;rw[h.1,h.2]
 |.str a,.str b,h=>by simp[eqD]at h;rw[h]
 |.lst l,.lst m,h=>by rw[eqD]at h;rw[quv h]
 |.agg l,.agg m,h=>by rw[eqD]at h;rw[quv h]
 |.tup l,.tup m,h=>by rw[eqD]at h;rw[quv h]
 |.float ..,_,h=>by simp[eqD]at h
 |.nilsl,_,h=>by simp[eqD]at h
 |.ref ..,_,h=>by simp[eqD]at h
 |.pl ..,_,h=>by simp[eqD]at h
 |.ptr ..,_,h=>by simp[eqD]at h
 |.fn ..,_,h=>by simp[eqD]at h
 |.mref ..,_,h=>by simp[eqD]at h
 |.mlst ..,_,h=>by simp[eqD]at h
 |.opq ..,_,h=>by simp[eqD]at h
 |.bad,_,h=>by simp[eqD]at h
theorem quv:∀{a b:List D},eqL a b=true→a=b
 |[],[],_=>rfl
 |a::l,b::m,h=>by rw[eqL,Bool.and_eq_true]at h;rw[qFD h.1,quv h.2]
 |[],_::_,h=>by simp[eqL]at h
 |_::_,[],h=>by simp[eqL]at h
end
def eqO:Option D→D→Bool
 |some a,b=>eqD a b
 |none,_=>false
theorem qJw {a:Option D}{b:D}(h:eqO a b=true):a=some b:=by
 cases a with
 |none=>simp[eqO]at h
 |some a=>rw[qFD h]
end Go.F

namespace Go.F
def sqPc (k:Int):Piece:=⟨⟨#[102,114,111,110,116]⟩,[⟨⟨#[108,111,119]⟩,[⟨0,0⟩,⟨10,0⟩]⟩,⟨⟨#[114,105,103,104,116]⟩,[⟨10,0⟩,⟨10,10⟩]⟩,⟨⟨#[104,105,103,104]⟩,[⟨10,10⟩,⟨0,10⟩]⟩,⟨⟨#[108,101,102,116]⟩,[⟨0,10⟩,⟨0,0⟩]⟩],1,[],[⟨0,0⟩,⟨k,0⟩,⟨k,0⟩,⟨0,0⟩],[0,0,0,0],false⟩
def sqS (k:Int)(us:List Use)(sm:List Sew):Sty:=⟨⟨#[115,104,105,114,116]⟩,[⟨#[83]⟩,⟨#[77]⟩,⟨#[76]⟩],[-1,0,1],[sqPc k],us,sm,[]⟩
def qJa:List Use:=[⟨0,1,false⟩]
def sew1:List Sew:=[⟨0,0,0,3,false,1000⟩]
theorem qKT:eqO (run prog q6K qmD 12 qGI [.int .i64 2]) (sqS 2 qJa []).enc=true:=by decide+kernel
theorem qKU:eqO (run prog q6K qmD 12 qGI [.int .i64 (-2)]) (sqS (-2) qJa []).enc=true:=by decide+kernel
theorem qKV:eqO (run prog q6K qmD 12 qGI [.int .i64 10]) (sqS 10 qJa []).enc=true:=by decide+kernel
theorem qK0:PU qGI [.int .i64 2]=some (sqS 2 qJa []).enc:=qyu (qJw qKT)
theorem sq2_PU:PU qGI [.int .i64 (-2)]=some (sqS (-2) qJa []).enc:=qyu (qJw qKU)
theorem sq3_PU:PU qGI [.int .i64 10]=some (sqS 10 qJa []).enc:=qyu (qJw qKV)
theorem ex_a:qIl (sqS 2 qJa [])=([],0):=by decide+kernel
theorem ex_b:qIl (sqS (-2) qJa [])=([⟨5,0,1⟩,⟨5,0,2⟩],0):=by decide+kernel
theorem ex_c:qIl (sqS 10 [] [])=([⟨1,0,0⟩,⟨6,0,0⟩],0):=by decide+kernel
theorem ex_d:qIl (sqS 2 qJa sew1)=([⟨3,0,0⟩,⟨3,0,2⟩],0):=by decide+kernel
theorem ex_e:(qIl ⟨⟨#[]⟩,[],[],[],[],[],[]⟩)=([],1):=by decide+kernel
end Go.F

namespace Go.F
attribute [local irreducible] IntKind.wrap wpM
theorem qIN (s:Sty)(hB:StyB s):PU qEL [s.enc]=some (.bool (decide (qIl s=([],0)))):=by
 have h:=qIh s hB
 generalize qIl s=r at*
 obtain⟨l,e⟩:=r
 refine q0g (fn:=qnh) rfl (q0a ?_)
 refine gg rfl (q02 rfl rfl h (gg rfl (q09 rfl (fun g=>?_) (fun g=>?_))))
 ·rw[q1n]at g
  refine gg rfl (q08 rfl rfl rfl trivial ?_)
  simp only at g
  rw[q2e,List.length_map,g]
  cases l<;>simp
  omega
 rw[q1Q]at g
 refine gg rfl (q08 rfl rfl rfl trivial ?_)
 simp only at g
 simp[g]
def noS:Sty:=⟨⟨#[]⟩,[],[],[],[],[],[]⟩
theorem sqB1:StyB (sqS 2 qJa []):=⟨by decide,by decide,by decide,by decide,by decide,by decide,by decide,by decide,by decide,by decide⟩
theorem sqB2:StyB (sqS (-2) qJa []):=⟨by decide,by decide,by decide,by decide,by decide,by decide,by decide,by decide,by decide,by decide⟩
theorem sqB3:StyB (sqS 10 [] []):=⟨by decide,by decide,by decide,by decide,by decide,by decide,by decide,by decide,by decide,by decide⟩
theorem sqB4:StyB (sqS 2 qJa sew1):=⟨by decide,by decide,by decide,by decide,by decide,by decide,by decide,by decide,by decide,by decide⟩
theorem noB:StyB noS:=⟨by decide,by decide,by decide,by decide,by decide,by decide,by decide,by decide,by decide,by decide⟩
set_option maxRecDepth 100000 in
set_option maxHeartbeats 16000000 in
theorem qIp:PU qHF []=some (.bool true):=by
 have v1:=qIh _ sqB1
 have v2:=qIh _ sqB2
 have v3:=qIh _ sqB3
 have v4:=qIh _ sqB4
 have v5:=qIh _ noB
 have c1:=qIN _ sqB1
 have c2:=qIN _ sqB4
 have c3:=qIN _ noB
 rw[ex_a]at v1 c1
 rw[ex_b]at v2
 rw[ex_c]at v3
 rw[ex_d]at v4 c2
 rw[show qIl noS=([],1)from ex_e]at v5 c3
 rw[decide_eq_true rfl]at c1
 rw[decide_eq_false (by simp)]at c2 c3
 have hn:∀{x:Int} {P:Prop},nqb x x=true→P:=fun h=>absurd rfl (q0u.1 h)
 have s1:=qGu [⟨5,0,1⟩,⟨5,0,2⟩] [⟨5,0,1⟩,⟨5,0,2⟩] (by decide)
 have s2:=qGu [⟨1,0,0⟩,⟨6,0,0⟩] [⟨1,0,0⟩,⟨6,0,0⟩] (by decide)
 have s3:=qGu [⟨3,0,0⟩,⟨3,0,2⟩] [⟨3,0,0⟩,⟨3,0,2⟩] (by decide)
 rw[decide_eq_true rfl]at s1 s2 s3
 refine q0g (fn:=qvw) rfl (q0a ?_)
 refine gg rfl (q02 rfl rfl qK0 (gg rfl (q02 rfl rfl v1 (gg rfl (q02 rfl rfl sq2_PU (gg rfl (q02 rfl rfl v2 (gg rfl (q02 rfl rfl sq3_PU (gg rfl (q02 rfl rfl v3 (gg rfl (q02 rfl rfl qK0 ?_)))))))))))))
 refine gg rfl (q1T rfl rfl ⟨⟨by decide,rfl⟩,trivial⟩ v4 fun z=>(gg rfl (q02 rfl rfl v5 (gg rfl (q09 rfl hn (fun _=>?_))))))
 refine gg rfl (q09 rfl hn (fun _=>?_))
 refine gg rfl (q09 rfl hn (fun _=>?_))
 refine gg rfl (q09 rfl hn (fun _=>?_))
 refine gg rfl (q09 rfl hn (fun _=>?_))
 refine gg rfl (q01 rfl hn (fun _=>?_))
 refine gg rfl (q1T rfl rfl ⟨⟨by decide,rfl⟩,trivial⟩ s1 fun z=>(gg rfl (q0n rfl (gg rfl (q1T rfl rfl ⟨⟨by decide,rfl⟩,trivial⟩ s2 fun z=>(gg rfl (q0n rfl (gg rfl (q1T rfl rfl ⟨⟨by decide,rfl⟩,trivial⟩ s3 fun z=>(gg rfl (q0j rfl (gg rfl (q02 rfl rfl qK0 ?_)))))))))))))
 exact gg rfl (q02 rfl rfl c1 (gg rfl (q0h rfl (gg rfl (q1T rfl rfl ⟨⟨by decide,rfl⟩,trivial⟩ c2 fun z=>(gg rfl (q0h rfl (gg rfl (q02 rfl rfl c3 (gg rfl (q08 rfl rfl rfl trivial rfl)))))))))))
end Go.F

namespace Go.F
attribute [local irreducible] IntKind.wrap wpM
theorem qIn {s:Sty}(hc:∀p∈s.pieces,p.corners.length≤1000000){i z:Nat}(hi:i<s.pieces.length)(hz:z<s.mults.length):PU qEO [s.enc,.int .i64 i,.int .i64 z]=some (.bool (qk1 s i z).outline):=by
 have hg:=q3e (pc s.pieces i) (mz s z) (hc _ (q7e hi))
 have hp:=q4q hi
 have hm:(s.mults.map q00)[z]?=some (.int .i64 (mz s z)):=q7f hz
 rw[qma]
 unfold qtd
 generalize mz s z=m at*
 generalize pc s.pieces i=p at*
 refine q0g (fn:=qnC) rfl (q0a ?_)
 exact gg rfl (q0i i rfl rfl rfl hp rfl (gg rfl (q0i z rfl rfl rfl hm rfl (gg rfl (q02 rfl rfl hg (gg rfl (q08 rfl rfl rfl trivial (by rw[q2e]))))))))
theorem qK4 {s:Sty}(hc:∀p∈s.pieces,p.corners.length≤1000000){i z:Nat}(hi:i<s.pieces.length)(hz:z<s.mults.length)(ho:(qk1 s i z).outline=true):PU qKf [s.enc,.int .i64 i,.int .i64 z]=some (.bool (qk1 s i z).cut):=by
 have hg:=q3e (pc s.pieces i) (mz s z) (hc _ (q7e hi))
 have hp:=q4q hi
 have hm:(s.mults.map q00)[z]?=some (.int .i64 (mz s z)):=q7f hz
 have ha:=quO (q0p (pc s.pieces i) (mz s z)).1 (pc s.pieces i).widths
 rw[←qzW]at ha
 rw[qma,qtd,decide_eq_true_eq]at ho
 have hcut:(qk1 s i z).cut=decide ((q23 (q0p (pc s.pieces i) (mz s z)).1 (pc s.pieces i).widths).2=0):=by
  unfold qk1 exm
  rw[if_neg (by simp[ho])]
 rw[hcut]
 generalize mz s z=m at*
 generalize pc s.pieces i=p at*
 generalize q0p p m=G at*
 generalize q23 G.1 p.widths=A at*
 refine q0g (fn:=qBO) rfl (q0a ?_)
 exact gg rfl (q0i i rfl rfl rfl hp rfl (gg rfl (q0i z rfl rfl rfl hm rfl (gg rfl (q02 rfl rfl hg (gg rfl (q02 rfl rfl ha (gg rfl (q08 rfl rfl rfl trivial (by rw[q2e]))))))))))
theorem qJz {s:Sty}(h:q2M s=0){k z:Nat}(hk:k<s.seams.length)(hz:z<s.mults.length)(hb:qaX s k z=true):PU qHK [s.enc,.int .i64 k,.int .i64 z]=some (.bool (o3 s k z)):=by
 have h0:=qAx h hk hz hb
 have hL:=qGo s z k h0
 obtain⟨_,_,_,a4⟩:=q5a h0.ea
 obtain⟨_,_,_,b4⟩:=q5a h0.eb
 have q1:0≤qiX s z (sw s.seams k)∧qiX s z (sw s.seams k)≤1099511627776:=qBz h0.ga a4
 have q2:0≤qiY s z (sw s.seams k)∧qiY s z (sw s.seams k)≤1099511627776:=qBz h0.gb b4
 have hx:=qjN hk
 have ho:o3 s k z=decide ((sw s.seams k).ease<max (qiX s z (sw s.seams k)-qiY s z (sw s.seams k)) (qiY s z (sw s.seams k)-qiX s z (sw s.seams k))):=by
  unfold o3;rw[hb,Bool.true_and]
 rw[ho]
 generalize qiX s z (sw s.seams k)=a at*
 generalize qiY s z (sw s.seams k)=b at*
 generalize sw s.seams k=m at*
 have wa:=ww (x:=a-b)
 have wb:=ww (x:=b-a)
 refine q0g (fn:=qvD) rfl (q0a ?_)
 refine gg rfl (q02 rfl rfl hL (gg rfl ?_))
 rw[wa,wb]
 exact q0i k rfl rfl rfl hx rfl (gg rfl (q08 rfl rfl rfl trivial (by rw[q1J])))
theorem qJ3 {s:Sty}(h:q2M s=0){k z:Nat}(hk:k<s.seams.length)(hz:z<s.mults.length)(hb:qaX s k z=true):PU qDZ [s.enc,.int .i64 k,.int .i64 z]=some (.bool (o4 s k z)):=by
 have h1:=qAx h hk hz hb
 have h2:=qGm h hk hz hb
 obtain⟨_,a2,_,_⟩:=q5a h1.ea
 obtain⟨_,b2,_,_⟩:=q5a h1.eb
 have pa:=qqs h a2
 have pb:=qqs h b2
 have hU:PU qE0 [(qqr s (sw s.seams k)).enc,.int .i64 z]=some (.tup [qqo (qDO s z (sw s.seams k)),.int .i64 0]):=qJ2 (qqr s (sw s.seams k)) z h2 rfl (qqq pa.1 pa.2.1 h1.ga) (qqq pb.1 pb.2.1 h1.gb)
 have hsl:((s.seams.map Sew.enc).drop k).take (k+1-k)=[(sw s.seams k).enc]:=by
  rw[List.drop_eq_getElem_cons (by simpa using hk),show k+1-k=1 by omega]
  simp only[List.take_succ_cons,List.take_zero,List.getElem_map]
  rw[sw_get hk]
 have ho:o4 s k z=decide (0<(qDO s z (sw s.seams k)).length):=by unfold o4;rw[hb,Bool.true_and]
 rw[ho]
 have hk24:=(qiL h).seams
 generalize qDO s z (sw s.seams k)=U at*
 have w1:=wS (n:=k)
 refine q0g (fn:=qmg) rfl (q0a ?_)
 refine gg rfl (atSl k (k+1) rfl (q1o (n:=6) (fun _=>rfl) _) ⟨_,_,rfl,rfl⟩ ⟨_,_,rfl,w1⟩ ⟨by omega,by simp;omega⟩ ?_)
 rw[hsl]
 refine gg rfl (q02 rfl rfl hU (gg rfl (q08 rfl rfl rfl trivial ?_)))
 rw[q1J,List.length_map]
 congr 1
 exact decide_eq_decide.2 ⟨fun h=>by omega,fun h=>by omega⟩
end Go.F

namespace Go.F
attribute [local irreducible] IntKind.wrap wpM
theorem areas2 {p:Piece}{a b:Int}(h1:(q0p p a).2=0)(h2:(q0p p b).2=0):qer p [a,b]=([q6x p a,q6x p b],0):=by
 have e:q6y p [a,b]=0:=by rw[q6y,if_pos h1,q6y,if_pos h2,q6y]
 unfold qer
 rw[e];rfl
theorem qIs {s:Sty}{i z:Nat}(h:(qk1 s i z).outline=true):(q0p (pc s.pieces i) (mz s z)).2=0∧(qk1 s i z).area=q6x (pc s.pieces i) (mz s z):=by
 rw[qma,qtd,decide_eq_true_eq]at h
 refine⟨h,?_⟩
 unfold qk1 exm
 rw[if_neg (by simp[h])]
set_option maxHeartbeats 4000000 in
theorem qJj {s:Sty}(hc:∀p∈s.pieces,p.corners.length≤1000000){i z:Nat}(hi:i<s.pieces.length)(hz:z<s.mults.length)(hz2:s.mults.length≤1000):PU qGq [s.enc,.int .i64 i,.int .i64 z]=some (.bool (o5 s i z)):=by
 by_cases h0:z=0
 ·subst h0
  refine q0g (fn:=qqz) rfl (q0a ?_)
  refine gg rfl (q09 rfl (fun _=>?_) (fun f=>absurd rfl (q1Q.1 f)))
  exact gg rfl (q0h rfl (gg rfl (q0h rfl (gg rfl (q0d rfl (gg rfl (q08 rfl rfl rfl trivial rfl)))))))
 have hp:=q4q hi
 have m1:(s.mults.map q00)[z]?=some (.int .i64 (mz s z)):=q7f hz
 have m2:(s.mults.map q00)[z-1]?=some (.int .i64 (mz s (z-1))):=q7f (by omega)
 have q1:=qIn hc hi (z:=z-1) (by omega)
 have q2:=qIn hc hi hz
 have w3:IntKind.i64.wrap ((z:Int)-1)=((z-1:Nat):Int):=by rw[wrap64 (by omega) (by omega)];omega
 have eo:o5 s i z=(decide (mz s (z-1)<mz s z)&&((qk1 s i (z-1)).outline&&((qk1 s i z).outline&&decide ((qk1 s i z).area<(qk1 s i (z-1)).area)))):=by unfold o5;rw[decide_eq_true (by omega),Bool.true_and]
 rw[eo]
 have hA:(qk1 s i (z-1)).outline=true→(qk1 s i z).outline=true→PU qwr [(pc s.pieces i).enc,ints [mz s (z-1),mz s z]]=some (.tup [ints [(qk1 s i (z-1)).area,(qk1 s i z).area],.int .i64 0]):=by
  intro g1 g2
  have:=qHA (pc s.pieces i) [mz s (z-1),mz s z] (hc _ (q7e hi)) (by simp)
  rw[areas2 (qIs g1).1 (qIs g2).1]at this
  rw[(qIs g1).2,(qIs g2).2]
  exact this
 generalize qk1 s i (z-1)=G1 at*
 generalize qk1 s i z=G2 at*
 generalize mz s (z-1)=M1 at*
 generalize mz s z=M2 at*
 generalize pc s.pieces i=p at*
 refine q0g (fn:=qqz) rfl (q0a ?_)
 refine gg rfl (q09 rfl (fun f=>?_) (fun f=>?_))
 ·rw[q1n]at f;omega
 clear f
 refine gg rfl (q0i z rfl rfl rfl m1 rfl (gg rfl ?_))
 rw[w3]
 refine q0i (z-1) rfl rfl rfl m2 rfl (gg rfl (q09 rfl (fun f=>?_) (fun f=>?_)))
 ·rw[q0E]at f
  refine gg rfl (q0h rfl (gg rfl (q0d rfl (gg rfl (q08 rfl rfl rfl trivial ?_)))))
  rw[decide_eq_false (by omega),Bool.false_and]
 rw[q0F]at f
 rw[decide_eq_true f,Bool.true_and]
 refine gg rfl ?_
 rw[w3]
 refine q02 rfl rfl q1 ?_
 cases g1:G1.outline with
 |false=>
  exact gg rfl (q0h rfl (gg rfl (q0d rfl (gg rfl (q08 rfl rfl rfl trivial rfl)))))
 |true=>
  refine gg rfl (q0n rfl (gg rfl (q02 rfl rfl q2 ?_)))
  cases g2:G2.outline with
  |false=>
   exact gg rfl (q0d rfl (gg rfl (q08 rfl rfl rfl trivial rfl)))
  |true=>
   have hA:=hA g1 g2
   refine gg rfl (q0j rfl (gg rfl (q0i i rfl rfl rfl hp rfl (gg rfl ?_))))
   rw[w3]
   refine q0i (z-1) rfl rfl rfl m2 rfl (gg rfl (q0i z rfl rfl rfl m1 rfl (gg rfl (qHz [_] rfl rfl ⟨q2s rfl rfl,trivial⟩ hA rfl rfl (gg rfl (q0i 1 rfl rfl rfl rfl rfl (gg rfl (q0i 0 rfl rfl rfl rfl rfl (gg rfl (q08 rfl rfl rfl trivial ?_))))))))))
   rw[q1J];rfl
set_option maxHeartbeats 2000000 in
theorem qJO (s:Sty)(i:Nat)(hul:s.uses.length≤1000):PU qI1 [s.enc,.int .i64 i]=some (.bool (qey s.uses i)):=by
 refine q0g (fn:=qyy) rfl (q0a ?_)
 refine gg rfl (q0l (S:=fun k:Nat=>([q00 i,.ptr 1 0 0,q00 k],[none,some (.row [s.enc] 7),none],[0,0,0])) (C:=fun k=>k≤s.uses.length∧qey (s.uses.take k) i=false) (m:=fun k=>s.uses.length-k) 0 ⟨Nat.zero_le _,rfl⟩ (by omega) ?_ ?_)
 ·exact q03 rfl ⟨rfl,trivial⟩ rfl
 rintro k ⟨hk,hno⟩ N hN
 refine gg rfl ?_
 rw[List.length_map]
 refine q01 rfl (fun e=>?_) (fun e=>?_)
 ·rw[q06]at e
  have hlt:k<s.uses.length:=by omega
  have w1:=wS (n:=k)
  have hx:=qq5 hlt
  have hst:=qDQ hlt i
  rw[hno,Bool.false_or]at hst
  have yes:(us s.uses k).piece=(i:Nat)→qey s.uses i=true:=fun hh=>List.any_eq_true.2 ⟨us s.uses k,by rw[qek hlt];exact List.getElem_mem _,decide_eq_true hh⟩
  generalize us s.uses k=u at*
  refine gg rfl (q0i k rfl rfl rfl hx rfl (gg rfl (q01 rfl (fun f=>?_) (fun f=>?_))))
  ·rw[q1n]at f
   refine gg rfl (q04 (gg rfl (q08 rfl rfl rfl trivial ?_)))
   rw[yes f]
  rw[q1Q]at f
  exact gg rfl (q04 (hN (k+1) ⟨hlt,by rw[hst,decide_eq_false f]⟩ (by omega) (q03 rfl ⟨rfl,trivial⟩ (by rw[w1];rfl))))
 rw[q07]at e
 obtain rfl:k=s.uses.length:=by omega
 clear hN
 rw[List.take_length]at hno
 exact gg rfl (q04 (gg rfl (q08 rfl rfl rfl trivial (by rw[hno]))))
end Go.F

namespace Go.F
attribute [local irreducible] IntKind.wrap wpM
def oK (s:Sty)(kd a z:Nat):Bool:=if kd=1 then o1 (qk1 s) a z else if kd=2 then o2 (qk1 s) a z else if kd=3 then o3 s a z else if kd=4 then o4 s a z else if kd=5 then o5 s a z else o6 s a z
def nK (s:Sty)(kd:Nat):Nat:=if kd=3∨kd=4 then s.seams.length else s.pieces.length
set_option maxHeartbeats 4000000 in
theorem qK5 {s:Sty}(hc:∀p∈s.pieces,p.corners.length≤1000000){kd a z:Nat}(hk:kd=1∨kd=2)(ha:a<s.pieces.length)(hz:z<s.mults.length):
 PU qHJ [s.enc,.int .i64 kd,.int .i64 a,.int .i64 z]=some (.bool (oK s kd a z)):=by
 have q1:=qIn hc ha hz
 have q2:=qK4 hc ha hz
 rcases hk with rfl|rfl
 ·have eo:oK s 1 a z=!(qk1 s a z).outline:=rfl
  rw[eo]
  refine q0g (fn:=qvr) rfl (q0a ?_)
  refine gg rfl (q01 rfl (fun _=>?_) (fun f=>absurd rfl (q1Q.1 f)))
  exact gg rfl (q02 rfl rfl q1 (gg rfl (q08 rfl rfl rfl trivial rfl)))
 have eo:oK s 2 a z=((qk1 s a z).outline&&!(qk1 s a z).cut):=rfl
 rw[eo]
 generalize qk1 s a z=G at*
 refine q0g (fn:=qvr) rfl (q0a ?_)
 refine gg rfl (q01 rfl (fun f=>absurd (q1n.1 f) (by decide)) (fun _=>?_))
 refine gg rfl (q01 rfl (fun _=>?_) (fun f=>absurd rfl (q1Q.1 f)))
 refine gg rfl (q02 rfl rfl q1 ?_)
 cases g:G.outline with
 |false=>
  exact gg rfl (q0n rfl (gg rfl (q08 rfl rfl rfl trivial rfl)))
 |true=>
  exact gg rfl (q0h rfl (gg rfl (q02 rfl rfl (q2 g) (gg rfl (q08 rfl rfl rfl trivial rfl)))))
set_option maxHeartbeats 4000000 in
theorem qK6 {s:Sty}(hc:∀p∈s.pieces,p.corners.length≤1000000){kd a z:Nat}(hk:kd=5∨kd=6)(ha:a<s.pieces.length)(hz:z<s.mults.length)(hz2:s.mults.length≤1000)(hul:s.uses.length≤1000):
 PU qHJ [s.enc,.int .i64 kd,.int .i64 a,.int .i64 z]=some (.bool (oK s kd a z)):=by
 have q1:=qJj hc ha hz hz2
 have q2:=qJO s a hul
 rcases hk with rfl|rfl
 ·have eo:oK s 5 a z=o5 s a z:=rfl
  rw[eo]
  refine q0g (fn:=qvr) rfl (q0a ?_)
  refine gg rfl (q01 rfl (fun f=>absurd (q1n.1 f) (by decide)) (fun _=>?_))
  refine gg rfl (q01 rfl (fun f=>absurd (q1n.1 f) (by decide)) (fun _=>?_))
  refine gg rfl (q01 rfl (fun _=>?_) (fun f=>absurd rfl (q1Q.1 f)))
  exact gg rfl (q02 rfl rfl q1 (gg rfl (q08 rfl rfl rfl trivial rfl)))
 have eo:oK s 6 a z=(decide (z=0)&&!qey s.uses a):=rfl
 rw[eo]
 refine q0g (fn:=qvr) rfl (q0a ?_)
 refine gg rfl (q01 rfl (fun f=>absurd (q1n.1 f) (by decide)) (fun _=>?_))
 refine gg rfl (q01 rfl (fun f=>absurd (q1n.1 f) (by decide)) (fun _=>?_))
 refine gg rfl (q01 rfl (fun f=>absurd (q1n.1 f) (by decide)) (fun _=>?_))
 refine gg rfl (q01 rfl (fun _=>?_) (fun f=>absurd rfl (q1Q.1 f)))
 refine gg rfl (q09 rfl (fun f=>?_) (fun f=>?_))
 ·rw[q1n]at f
  rw[decide_eq_true (show z=0 by omega),Bool.true_and]
  exact gg rfl (q02 rfl rfl q2 (gg rfl (q08 rfl rfl rfl trivial rfl)))
 rw[q1Q]at f
 rw[decide_eq_false (show¬z=0 by omega),Bool.false_and]
 exact gg rfl (q08 rfl rfl rfl trivial rfl)
set_option maxHeartbeats 4000000 in
theorem qK7 {s:Sty}(h:q2M s=0)(hc:∀p∈s.pieces,p.corners.length≤1000000){kd a z:Nat}(hk:kd=3∨kd=4)(ha:a<s.seams.length)(hz:z<s.mults.length):
 PU qHJ [s.enc,.int .i64 kd,.int .i64 a,.int .i64 z]=some (.bool (oK s kd a z)):=by
 have q1:=fun hb=>qJz h ha hz hb
 have q2:=fun hb=>qJ3 h ha hz hb
 have no3:qaX s a z=false→o3 s a z=false:=fun hb=>by unfold o3;rw[hb];rfl
 have no4:qaX s a z=false→o4 s a z=false:=fun hb=>by unfold o4;rw[hb];rfl
 have eo:oK s kd a z=if kd=3 then o3 s a z else o4 s a z:=by rcases hk with rfl|rfl<;>rfl
 have no:qaX s a z=false→oK s kd a z=false:=fun hb=>by rw[eo];split;exact no3 hb;exact no4 hb
 have hx:=qjN ha
 have hbb:qaX s a z=((qk1 s (sw s.seams a).pa.toNat z).outline&&(qk1 s (sw s.seams a).pb.toNat z).outline):=by rw[qma,qma];rfl
 obtain⟨ea,eb,_⟩:=qBy h ha
 obtain⟨a1,a2,a3,a4⟩:=q5a ea
 obtain⟨b1,b2,b3,b4⟩:=q5a eb
 have ia:(((sw s.seams a).pa.toNat:Nat):Int)=(sw s.seams a).pa:=by omega
 have ib:(((sw s.seams a).pb.toNat:Nat):Int)=(sw s.seams a).pb:=by omega
 have pA:=qIn hc a2 hz
 have pB:=qIn hc b2 hz
 rw[ia]at pA
 rw[ib]at pB
 generalize (qk1 s (sw s.seams a).pa.toNat z).outline=GA at*
 generalize (qk1 s (sw s.seams a).pb.toNat z).outline=GB at*
 clear ia ib a1 a2 a3 a4 b1 b2 b3 b4 ea eb no3 no4
 generalize sw s.seams a=m at*
 generalize qaX s a z=BB at*
 generalize oK s kd a z=O at*
 generalize o3 s a z=O3 at*
 generalize o4 s a z=O4 at*
 refine q0g (fn:=qvr) rfl (q0a ?_)
 refine gg rfl (q01 rfl (fun f=>absurd (q1n.1 f) (by omega)) (fun _=>?_))
 refine gg rfl (q01 rfl (fun f=>absurd (q1n.1 f) (by omega)) (fun _=>?_))
 refine gg rfl (q01 rfl (fun f=>absurd (q1n.1 f) (by omega)) (fun _=>?_))
 refine gg rfl (q01 rfl (fun f=>absurd (q1n.1 f) (by omega)) (fun _=>?_))
 refine gg rfl (q0i a rfl rfl rfl hx rfl (gg rfl (q02 rfl rfl pA ?_)))
 cases GA with
 |false=>
  exact gg rfl (q0h rfl (gg rfl (q0d rfl (gg rfl (q08 rfl rfl rfl trivial (by rw[no hbb]))))))
 |true=>
  refine gg rfl (q0n rfl (gg rfl (q02 rfl rfl pB ?_)))
  cases GB with
  |false=>
   exact gg rfl (q0d rfl (gg rfl (q08 rfl rfl rfl trivial (by rw[no hbb]))))
  |true=>
   refine gg rfl (q0j rfl (gg rfl (q01 rfl (fun f=>?_) (fun f=>?_))))
   ·rw[q1n]at f
    rw[if_pos (show kd=3 by omega)]at eo
    exact gg rfl (q02 rfl rfl (q1 hbb) (gg rfl (q08 rfl rfl rfl trivial (by rw[eo]))))
   rw[q1Q]at f
   rw[if_neg (show¬kd=3 by omega)]at eo
   exact gg rfl (q02 rfl rfl (q2 hbb) (gg rfl (q08 rfl rfl rfl trivial (by rw[eo]))))
theorem qIH {s:Sty}(h:q2M s=0){kd a z:Nat}(h1:1≤kd)(h6:kd≤6)(ha:a<nK s kd)(hz:z<s.mults.length):
 PU qHJ [s.enc,.int .i64 kd,.int .i64 a,.int .i64 z]=some (.bool (oK s kd a z)):=by
 have hc:=qqt h
 have hok:=qiL h
 have hm12:s.mults.length≤1000:=by have:=hok.mults;have:=hok.sizes;omega
 unfold nK at ha
 by_cases g:kd=3∨kd=4
 ·rw[if_pos g]at ha
  exact qK7 h hc g ha hz
 rw[if_neg g]at ha
 by_cases g2:kd=1∨kd=2
 ·exact qK5 hc g2 ha hz
 exact qK6 hc (by omega) ha hz hm12 (by have:=hok.uses;omega)
end Go.F

namespace Go.F
attribute [local irreducible] IntKind.wrap wpM
def qID (s:Sty)(kd:Nat):List Iss:=q1W (kd:Nat) (oK s kd) (nK s kd) s.mults.length
def qJA (s:Sty):Nat→List Iss
 |0=>[]
 |k+1=>qJA s k++qID s (k+1)
theorem qL1 (s:Sty):qJA s 6=qId s:=by
 show(((((([]++qID s 1)++qID s 2)++qID s 3)++qID s 4)++qID s 5)++qID s 6)=qId s
 have e1:qID s 1=q1W 1 (o1 (qk1 s)) s.pieces.length s.mults.length:=rfl
 have e2:qID s 2=q1W 2 (o2 (qk1 s)) s.pieces.length s.mults.length:=rfl
 have e3:qID s 3=q1W 3 (o3 s) s.seams.length s.mults.length:=rfl
 have e4:qID s 4=q1W 4 (o4 s) s.seams.length s.mults.length:=rfl
 have e5:qID s 5=q1W 5 (o5 s) s.pieces.length s.mults.length:=rfl
 have e6:qID s 6=q1W 6 (o6 s) s.pieces.length s.mults.length:=rfl
 rw[e1,e2,e3,e4,e5,e6,qId,List.nil_append]
 simp only[List.append_assoc]
theorem qKe {s:Sty}(h1:s.pieces.length≤24)(h2:s.seams.length≤24)(h3:s.mults.length≤12):∀k,(qJA s k).length≤k*288
 |0=>Nat.le_refl _
 |k+1=>by
  have:=qKe h1 h2 h3 k
  have q:=q3X ((k+1:Nat):Int) (oK s (k+1)) (nK s (k+1)) s.mults.length
  have hn:nK s (k+1)≤24:=by unfold nK;split<;>omega
  have:=Nat.mul_le_mul hn h3
  rw[qJA,List.length_append]
  unfold qID
  omega
set_option maxRecDepth 100000 in
set_option maxHeartbeats 16000000 in
theorem qIU (s:Sty)(hB:StyB s):PU qGG [s.enc]=some (.tup [qqo (qIl s).1,.int .i64 (qIl s).2]):=by
 refine q0g (fn:=qtk) rfl (q0a ?_)
 refine gg rfl (q02 rfl rfl (quF s hB) (gg rfl (q01 rfl (fun g=>?_) (fun g=>?_))))
 ·rw[q0u]at g
  refine gg rfl (q08 rfl rfl rfl trivial ?_)
  rw[qIl,if_pos g];rfl
 have h:q2M s=0:=q0z.1 g
 rw[qIl,if_neg (by simp[h])]
 have hok:=qiL h
 have hp12:=hok.pieces
 have hs24:=hok.seams
 have hml:=hok.mults
 have hm12:s.mults.length≤12:=by have:=hok.mults;have:=hok.sizes;omega
 refine gg rfl (q0l (S:=fun k:Nat=>([.ptr 0 0 0,.ref 1 0 (qJA s k).length,q00 ((k+1:Nat):Int)],[some (.row [s.enc] 7),some (.row ((qJA s k).map Iss.enc) 3),none],[0,0,0])) (C:=fun k=>k≤6) (m:=fun k=>6-k) 0 (by omega) (by omega) ?_ ?_)
 ·exact q03 rfl ⟨rfl,rfl,trivial⟩ rfl
 intro k hk N hN
 have hl:=qKe (by omega) hs24 hm12 k
 have w0:IntKind.i64.wrap (((k+1:Nat):Int)+1)=((k+1+1:Nat):Int):=ww
 refine gg rfl (q01 rfl (fun e=>?_) (fun e=>?_))
 ·rw[q0E]at e
  have hk5:k<6:=by omega
  have hst:∀{n:Nat},nK s (k+1)=n→qJA s (k+1)=qJA s k++q1W ((k+1:Nat):Int) (oK s (k+1)) n s.mults.length:=fun hn=>by rw[←hn];rfl
  generalize qJA s k=A at*
  generalize hP:oK s (k+1)=P at*
  have n1:k+1=3∨k+1=4→nK s (k+1)=s.seams.length:=fun hh=>by unfold nK;rw[if_pos hh]
  have n2:¬(k+1=3∨k+1=4)→nK s (k+1)=s.pieces.length:=fun hh=>by unfold nK;rw[if_neg hh]
  refine gg rfl ?_
  rw[List.length_map]
  refine q09 rfl (fun f=>?_) (fun f=>?_)
  ·rw[q1n]at f
   have n1:=n1 (by omega)
   refine gg rfl (q0d rfl (gg rfl ?_))
   first|rw[List.length_map] |skip
   refine q0l (S:=fun a:Nat=>([.ptr 0 0 0,.ref 1 0 (A++q1W ((k+1:Nat):Int) P a s.mults.length).length,q00 ((k+1:Nat):Int),q00 (s.seams.length),q00 a],[some (.row [s.enc] 7),some (.row ((A++q1W ((k+1:Nat):Int) P a s.mults.length).map Iss.enc) 3),none,none,none],[0,0,0,0,0])) (C:=fun a=>a≤s.seams.length) (m:=fun a=>s.seams.length-a) 0 (Nat.zero_le _) (by omega) ?_ ?_
   ·refine qIe rfl rfl ⟨rfl,q05 q0L _,trivial⟩ rfl rfl rfl ?_
    rw[show A++q1W ((k+1:Nat):Int) P 0 s.mults.length=A by simp[q1W]]
    rfl
   intro a ha N2 hN2
   refine gg rfl (q01 rfl (fun e2=>?_) (fun e2=>?_))
   ·rw[q06]at e2
    have hlt:a<s.seams.length:=by omega
    have w1:=wS (n:=a)
    have l5:=q3X ((k+1:Nat):Int) P a s.mults.length
    have hiw:a*s.mults.length≤24*12:=Nat.mul_le_mul (by omega) hm12
    have ps:=q4D ((k+1:Nat):Int) P a s.mults.length
    have hH:=fun z (hz:z<s.mults.length)=>qIH h (kd:=k+1) (a:=a) (z:=z) (by omega) (by omega) (by rw[n1];exact hlt) hz
    rw[hP]at hH
    generalize q1W ((k+1:Nat):Int) P a s.mults.length=B at*
    refine gg rfl (q0l (S:=fun z:Nat=>([.ptr 0 0 0,.ref 1 0 (A++B++q5M ((k+1:Nat):Int) P a z).length,q00 ((k+1:Nat):Int),q00 (s.seams.length),q00 a,q00 z],[some (.row [s.enc] 7),some (.row ((A++B++q5M ((k+1:Nat):Int) P a z).map Iss.enc) 3),none,none,none,none],[0,0,0,0,0,0])) (C:=fun z=>z≤s.mults.length) (m:=fun z=>s.mults.length-z) 0 (Nat.zero_le _) (by omega) ?_ ?_)
    ·refine qIe rfl rfl ⟨rfl,q05 q0L _,trivial⟩ rfl rfl rfl ?_
     rw[show A++B++q5M ((k+1:Nat):Int) P a 0=A++B by simp[q5M]]
     rfl
    intro z hz N3 hN3
    refine gg rfl ?_
    rw[List.length_map]
    refine q01 rfl (fun f=>?_) (fun f=>?_)
    ·rw[q06]at f
     have hlz:z<s.mults.length:=by omega
     have w2:=wS (n:=z)
     have k5:=qbA ((k+1:Nat):Int) P a z
     have rs:=row_step ((k+1:Nat):Int) P a z
     have hH:=hH z hlz
     generalize q5M ((k+1:Nat):Int) P a z=R at*
     refine gg rfl (q02 rfl rfl hH ?_)
     cases eo:P a z with
     |false=>
      have e5:q5M ((k+1:Nat):Int) P a (z+1)=R:=by rw[rs,eo];simp
      refine gg rfl (q0j rfl (gg rfl (q04 (hN3 (z+1) (by omega) (by omega) (qIe rfl rfl ⟨rfl,q05 q0L _,trivial⟩ rfl rfl rfl ?_)))))
      rw[e5,←w2];rfl
     |true=>
      have e5:A++B++q5M ((k+1:Nat):Int) P a (z+1)=A++B++R++[⟨((k+1:Nat):Int),(a:Nat),(z:Nat)⟩]:=by rw[rs,eo];simp
      refine gg rfl (q0d rfl (gg rfl (q1b rfl rfl rfl rfl rfl rfl (by simp) (Nat.zero_le _) (by simp[q0M];omega) ?_)))
      refine gg rfl (q04 (hN3 (z+1) (by omega) (by omega) (qIe rfl rfl ⟨rfl,?_,trivial⟩ rfl rfl rfl ?_)))
      ·rw[List.all_append,q05 q0L];rfl
      rw[e5,←w2]
      generalize A++B++R=L
      have e6:(L++[(⟨((k+1:Nat):Int),(a:Nat),(z:Nat)⟩:Iss)]).length=L.length+1:=by simp
      rw[e6,List.map_append];rfl
    rw[q07]at f
    obtain rfl:z=s.mults.length:=by omega
    clear hN3
    refine gg rfl (q04 (gg rfl (q04 (hN2 (a+1) (by omega) (by omega) (qIe rfl rfl ⟨rfl,q05 q0L _,trivial⟩ rfl rfl rfl ?_)))))
    rw[ps,←List.append_assoc,←w1];rfl
   rw[q07]at e2
   obtain rfl:a=s.seams.length:=by omega
   clear hN2
   refine gg rfl (q04 (gg rfl (q04 (hN (k+1) (by omega) (by omega) (qIe rfl rfl ⟨rfl,q05 q0L _,trivial⟩ rfl rfl rfl ?_)))))
   rw[hst n1,←w0];rfl
  rw[q1Q]at f
  refine gg rfl (q01 rfl (fun f2=>?_) (fun f2=>?_))
  ·rw[q1n]at f2
   have n1:=n1 (by omega)
   refine gg rfl ?_
   first|rw[List.length_map] |skip
   refine q0l (S:=fun a:Nat=>([.ptr 0 0 0,.ref 1 0 (A++q1W ((k+1:Nat):Int) P a s.mults.length).length,q00 ((k+1:Nat):Int),q00 (s.seams.length),q00 a],[some (.row [s.enc] 7),some (.row ((A++q1W ((k+1:Nat):Int) P a s.mults.length).map Iss.enc) 3),none,none,none],[0,0,0,0,0])) (C:=fun a=>a≤s.seams.length) (m:=fun a=>s.seams.length-a) 0 (Nat.zero_le _) (by omega) ?_ ?_
   ·refine qIe rfl rfl ⟨rfl,q05 q0L _,trivial⟩ rfl rfl rfl ?_
    rw[show A++q1W ((k+1:Nat):Int) P 0 s.mults.length=A by simp[q1W]]
    rfl
   intro a ha N2 hN2
   refine gg rfl (q01 rfl (fun e2=>?_) (fun e2=>?_))
   ·rw[q06]at e2
    have hlt:a<s.seams.length:=by omega
    have w1:=wS (n:=a)
    have l5:=q3X ((k+1:Nat):Int) P a s.mults.length
    have hiw:a*s.mults.length≤24*12:=Nat.mul_le_mul (by omega) hm12
    have ps:=q4D ((k+1:Nat):Int) P a s.mults.length
    have hH:=fun z (hz:z<s.mults.length)=>qIH h (kd:=k+1) (a:=a) (z:=z) (by omega) (by omega) (by rw[n1];exact hlt) hz
    rw[hP]at hH
    generalize q1W ((k+1:Nat):Int) P a s.mults.length=B at*
    refine gg rfl (q0l (S:=fun z:Nat=>([.ptr 0 0 0,.ref 1 0 (A++B++q5M ((k+1:Nat):Int) P a z).length,q00 ((k+1:Nat):Int),q00 (s.seams.length),q00 a,q00 z],[some (.row [s.enc] 7),some (.row ((A++B++q5M ((k+1:Nat):Int) P a z).map Iss.enc) 3),none,none,none,none],[0,0,0,0,0,0])) (C:=fun z=>z≤s.mults.length) (m:=fun z=>s.mults.length-z) 0 (Nat.zero_le _) (by omega) ?_ ?_)
    ·refine qIe rfl rfl ⟨rfl,q05 q0L _,trivial⟩ rfl rfl rfl ?_
     rw[show A++B++q5M ((k+1:Nat):Int) P a 0=A++B by simp[q5M]]
     rfl
    intro z hz N3 hN3
    refine gg rfl ?_
    rw[List.length_map]
    refine q01 rfl (fun f=>?_) (fun f=>?_)
    ·rw[q06]at f
     have hlz:z<s.mults.length:=by omega
     have w2:=wS (n:=z)
     have k5:=qbA ((k+1:Nat):Int) P a z
     have rs:=row_step ((k+1:Nat):Int) P a z
     have hH:=hH z hlz
     generalize q5M ((k+1:Nat):Int) P a z=R at*
     refine gg rfl (q02 rfl rfl hH ?_)
     cases eo:P a z with
     |false=>
      have e5:q5M ((k+1:Nat):Int) P a (z+1)=R:=by rw[rs,eo];simp
      refine gg rfl (q0j rfl (gg rfl (q04 (hN3 (z+1) (by omega) (by omega) (qIe rfl rfl ⟨rfl,q05 q0L _,trivial⟩ rfl rfl rfl ?_)))))
      rw[e5,←w2];rfl
     |true=>
      have e5:A++B++q5M ((k+1:Nat):Int) P a (z+1)=A++B++R++[⟨((k+1:Nat):Int),(a:Nat),(z:Nat)⟩]:=by rw[rs,eo];simp
      refine gg rfl (q0d rfl (gg rfl (q1b rfl rfl rfl rfl rfl rfl (by simp) (Nat.zero_le _) (by simp[q0M];omega) ?_)))
      refine gg rfl (q04 (hN3 (z+1) (by omega) (by omega) (qIe rfl rfl ⟨rfl,?_,trivial⟩ rfl rfl rfl ?_)))
      ·rw[List.all_append,q05 q0L];rfl
      rw[e5,←w2]
      generalize A++B++R=L
      have e6:(L++[(⟨((k+1:Nat):Int),(a:Nat),(z:Nat)⟩:Iss)]).length=L.length+1:=by simp
      rw[e6,List.map_append];rfl
    rw[q07]at f
    obtain rfl:z=s.mults.length:=by omega
    clear hN3
    refine gg rfl (q04 (gg rfl (q04 (hN2 (a+1) (by omega) (by omega) (qIe rfl rfl ⟨rfl,q05 q0L _,trivial⟩ rfl rfl rfl ?_)))))
    rw[ps,←List.append_assoc,←w1];rfl
   rw[q07]at e2
   obtain rfl:a=s.seams.length:=by omega
   clear hN2
   refine gg rfl (q04 (gg rfl (q04 (hN (k+1) (by omega) (by omega) (qIe rfl rfl ⟨rfl,q05 q0L _,trivial⟩ rfl rfl rfl ?_)))))
   rw[hst n1,←w0];rfl
  rw[q1Q]at f2
  have n2:=n2 (by omega)
  refine gg rfl ?_
  first|rw[List.length_map] |skip
  refine q0l (S:=fun a:Nat=>([.ptr 0 0 0,.ref 1 0 (A++q1W ((k+1:Nat):Int) P a s.mults.length).length,q00 ((k+1:Nat):Int),q00 (s.pieces.length),q00 a],[some (.row [s.enc] 7),some (.row ((A++q1W ((k+1:Nat):Int) P a s.mults.length).map Iss.enc) 3),none,none,none],[0,0,0,0,0])) (C:=fun a=>a≤s.pieces.length) (m:=fun a=>s.pieces.length-a) 0 (Nat.zero_le _) (by omega) ?_ ?_
  ·refine qIe rfl rfl ⟨rfl,q05 q0L _,trivial⟩ rfl rfl rfl ?_
   rw[show A++q1W ((k+1:Nat):Int) P 0 s.mults.length=A by simp[q1W]]
   rfl
  intro a ha N2 hN2
  refine gg rfl (q01 rfl (fun e2=>?_) (fun e2=>?_))
  ·rw[q06]at e2
   have hlt:a<s.pieces.length:=by omega
   have w1:=wS (n:=a)
   have l5:=q3X ((k+1:Nat):Int) P a s.mults.length
   have hiw:a*s.mults.length≤24*12:=Nat.mul_le_mul (by omega) hm12
   have ps:=q4D ((k+1:Nat):Int) P a s.mults.length
   have hH:=fun z (hz:z<s.mults.length)=>qIH h (kd:=k+1) (a:=a) (z:=z) (by omega) (by omega) (by rw[n2];exact hlt) hz
   rw[hP]at hH
   generalize q1W ((k+1:Nat):Int) P a s.mults.length=B at*
   refine gg rfl (q0l (S:=fun z:Nat=>([.ptr 0 0 0,.ref 1 0 (A++B++q5M ((k+1:Nat):Int) P a z).length,q00 ((k+1:Nat):Int),q00 (s.pieces.length),q00 a,q00 z],[some (.row [s.enc] 7),some (.row ((A++B++q5M ((k+1:Nat):Int) P a z).map Iss.enc) 3),none,none,none,none],[0,0,0,0,0,0])) (C:=fun z=>z≤s.mults.length) (m:=fun z=>s.mults.length-z) 0 (Nat.zero_le _) (by omega) ?_ ?_)
   ·refine qIe rfl rfl ⟨rfl,q05 q0L _,trivial⟩ rfl rfl rfl ?_
    rw[show A++B++q5M ((k+1:Nat):Int) P a 0=A++B by simp[q5M]]
    rfl
   intro z hz N3 hN3
   refine gg rfl ?_
   rw[List.length_map]
   refine q01 rfl (fun f=>?_) (fun f=>?_)
   ·rw[q06]at f
    have hlz:z<s.mults.length:=by omega
    have w2:=wS (n:=z)
    have k5:=qbA ((k+1:Nat):Int) P a z
    have rs:=row_step ((k+1:Nat):Int) P a z
    have hH:=hH z hlz
    generalize q5M ((k+1:Nat):Int) P a z=R at*
    refine gg rfl (q02 rfl rfl hH ?_)
    cases eo:P a z with
    |false=>
     have e5:q5M ((k+1:Nat):Int) P a (z+1)=R:=by rw[rs,eo];simp
     refine gg rfl (q0j rfl (gg rfl (q04 (hN3 (z+1) (by omega) (by omega) (qIe rfl rfl ⟨rfl,q05 q0L _,trivial⟩ rfl rfl rfl ?_)))))
     rw[e5,←w2];rfl
    |true=>
     have e5:A++B++q5M ((k+1:Nat):Int) P a (z+1)=A++B++R++[⟨((k+1:Nat):Int),(a:Nat),(z:Nat)⟩]:=by rw[rs,eo];simp
     refine gg rfl (q0d rfl (gg rfl (q1b rfl rfl rfl rfl rfl rfl (by simp) (Nat.zero_le _) (by simp[q0M];omega) ?_)))
     refine gg rfl (q04 (hN3 (z+1) (by omega) (by omega) (qIe rfl rfl ⟨rfl,?_,trivial⟩ rfl rfl rfl ?_)))
     ·rw[List.all_append,q05 q0L];rfl
     rw[e5,←w2]
     generalize A++B++R=L
     have e6:(L++[(⟨((k+1:Nat):Int),(a:Nat),(z:Nat)⟩:Iss)]).length=L.length+1:=by simp
     rw[e6,List.map_append];rfl
   rw[q07]at f
   obtain rfl:z=s.mults.length:=by omega
   clear hN3
   refine gg rfl (q04 (gg rfl (q04 (hN2 (a+1) (by omega) (by omega) (qIe rfl rfl ⟨rfl,q05 q0L _,trivial⟩ rfl rfl rfl ?_)))))
   rw[ps,←List.append_assoc,←w1];rfl
  rw[q07]at e2
  obtain rfl:a=s.pieces.length:=by omega
  clear hN2
  refine gg rfl (q04 (gg rfl (q04 (hN (k+1) (by omega) (by omega) (qIe rfl rfl ⟨rfl,q05 q0L _,trivial⟩ rfl rfl rfl ?_)))))
  rw[hst n2,←w0];rfl
 rw[q0F]at e
 obtain rfl:k=6:=by omega
 clear hN
 rw[qL1]at*
 refine gg rfl (q04 (gg rfl (q08 rfl rfl rfl ⟨q2s (by simp) (q0W qeV _),trivial⟩ ?_)))
 rw[q2t (by simp)];rfl
theorem qJB (s:Sty)(hB:StyB s):PU qHG [s.enc]=some (.bool (decide (qIl s=([],0)))):=by
 have hv:=qIU s hB
 generalize qIl s=v at*
 obtain⟨l,e⟩:=v
 refine q0g (fn:=qvz) rfl (q0a ?_)
 refine gg rfl (q02 rfl rfl hv (gg rfl (q09 rfl (fun f=>?_) (fun f=>?_))))
 ·rw[q1n]at f
  refine gg rfl (q08 rfl rfl rfl trivial ?_)
  rw[q2e,List.length_map]
  congr 1
  have f:e=0:=f
  subst f
  cases l with
  |nil=>rfl
  |cons x l=>simp;omega
 rw[q1Q]at f
 refine gg rfl (q08 rfl rfl rfl trivial ?_)
 have f:¬e=0:=f
 rw[decide_eq_false (by simp[f])]
end Go.F

namespace Go.F
attribute [local irreducible] IntKind.wrap wpM
set_option maxHeartbeats 4000000 in
theorem qKN (s:Sty):PU qyV [s.enc]=some (.bool true):=by
 obtain⟨b,hF,hfew⟩:=qIa s
 have ha:=qIp
 refine q0g (fn:=qg8) rfl (q0a ?_)
 refine gg rfl (q02 rfl rfl hF ?_)
 cases b with
 |false=>
  exact gg rfl (q0d rfl (gg rfl (q02 rfl rfl ha (gg rfl (q08 rfl rfl rfl trivial rfl)))))
 |true=>
  obtain⟨hL,hp4,hz4,hs6⟩:=hfew rfl
  have hB:=hL.B
  have hv:=qIh s hB
  have hr:=qIU s hB
  have hc:=qIN s hB
  have hd:=qJB s hB
  have hlen:(qIl s).1.length<4611686018427387904:=by
   by_cases h:q2M s=0
   ·have hok:=qiL h
    have hmm:=hok.mults
    have hlen:(qId s).length≤6000000:=qIF s (by omega) (by omega) (by omega)
    rw[qIl,if_neg (by simp[h])]
    show(qId s).length<_
    omega
   rw[qIl,if_pos h];show 0<_;omega
  have hS:=qGu (qIl s).1 (qIl s).1 hlen
  rw[decide_eq_true rfl]at hS
  generalize qIl s=v at*
  generalize decide (v=([],0))=d at*
  refine gg rfl (q0j rfl (gg rfl (q02 rfl rfl hv (gg rfl (q02 rfl rfl hr (gg rfl (q02 rfl rfl hS (gg rfl (q0h rfl (gg rfl (q09 rfl (fun _=>?_) (fun q=>absurd rfl (q1Q.1 q)))))))))))))
  refine gg rfl (q02 rfl rfl hc (gg rfl (q02 rfl rfl hd ?_)))
  cases d<;>(
   exact gg rfl (q0h rfl (gg rfl (q02 rfl rfl ha (gg rfl (q08 rfl rfl rfl trivial rfl))))))
end Go.F
