/-
  What the proof of CallBegins stands on, part 7. No condition.
-/
import Derived.Test.YtfliaigjcadegabGreatDoorZCallBeginsF
set_option linter.unusedSimpArgs false
set_option linter.unusedVariables false
namespace Go.Proofs.YtfliaigjcadegabGreatDoor
section
open Go.RowKit
section
attribute [local irreducible] CoW OpW FlW Step Spec
variable {G:Nat->Option W}
theorem q7q{α:Type}{a b:List α}{n:Nat}(h:a.length=n)(h2:b.length=n)(g:a.take n=b.take n):a=b:=by
 rwa[List.take_of_length_le Xd,List.take_of_length_le Xd] at g
theorem quq{α:Type}{a b:List α}{i:Nat}{x y:α}(g:a.take i=b.take i)(hx:a[i]? =some x)(hy:b[i]? =some y)(e:x=y):a.take (i+1)=b.take (i+1):=by
 rw[List.take_add_one,List.take_add_one,g,hx,hy,e]
theorem Ztq{α:Type}{a b:List α}{i:Nat}{x y:α}(hx:a[i]? =some x)(hy:b[i]? =some y)(h:x≠y):¬a=b:=λq=>h Yw
noncomputable instance(a b:Depo):Decidable (a=b):=Classical.propDecidable _
noncomputable instance(a b:Tx):Decidable (a=b):=Classical.propDecidable _
noncomputable instance(a b:RcI):Decidable (a=b):=Classical.propDecidable _
noncomputable instance(a b:Hdr):Decidable (a=b):=Classical.propDecidable _
theorem QJq{p:Prop} [Decidable p]{b:Bool}(h:p↔b=true):decide p=b:=by
 rw[Bool.eq_iff_iff,decide_eq_true_eq];exact h
theorem eq_pd(a b:Depo):eqW cfg 300 208 (pdW a) (pdW b)=some (decide (a=b)):=by
 rw[QJq (p:=a=b) (b:=decide ((a.number:Int)=b.number)&&(decide (a.to=b.to)&&(decide ((a.amount:Int)=b.amount)&&true))) (by cases a;cases b;simp only[Depo.mk.injEq,Bool.and_eq_true,decide_eq_true_eq,Int.natCast_inj,and_true])];exact jSq O O O O (zFq O O O (qqq O O) (zFq O O O (ywq O O O O O O _ _ _) (zFq O O O (qqq O O) kVq)))
theorem eq_tx(a b:Tx):eqW cfg 300 165 (txW a) (txW b)=some (decide (a=b)):=by
 rw[QJq (p:=a=b) (b:=decide (a.pub=b.pub)&&(decide (a.to=b.to)&&(decide ((a.nonce:Int)=b.nonce)&&(decide ((a.amount:Int)=b.amount)&&(decide ((a.fee:Int)=b.fee)&&(decide (a.sign=b.sign)&&true)))))) (by cases a;cases b;simp only[Tx.mk.injEq,Bool.and_eq_true,decide_eq_true_eq,Int.natCast_inj,and_true])];exact jSq O O O O (zFq O O O (ywq O O O O O O _ _ _) (zFq O O O (ywq O O O O O O _ _ _) (zFq O O O (qqq O O) (zFq O O O (qqq O O) (zFq O O O (qqq O O) (zFq O O O (ywq O O O O O O _ _ _) kVq))))))
theorem eq_rc(a b:RcI):eqW cfg 300 146 (rcW a) (rcW b)=some (decide (a=b)):=by
 rw[QJq (p:=a=b) (b:=decide ((Int.ofNat a.kind.toNat)=Int.ofNat b.kind.toNat)&&(decide (a.id=b.id)&&(decide (a.code=b.code)&&true))) (by cases a;cases b;simp only[RcI.mk.injEq,Bool.and_eq_true,decide_eq_true_eq,and_true];exact⟨λh=>⟨by rw[h.1],h.2⟩,λh=>⟨UInt8.toNat_inj.1 (Int.ofNat.inj h.1),h.2⟩⟩)];exact jSq O O O O (zFq O O O (qqq O O) (zFq O O O (ywq O O O O O O _ _ _) (zFq O O O (qqq O O) kVq)))
theorem eq_hd(h p:Hdr):eqW cfg 300 86 (hdW h) (hdW p)=some (decide (h=p)):=by
 rw[QJq (p:=h=p) (b:=decide (h.height=p.height)&&(decide (h.parent=p.parent)&&(decide (h.state=p.state)&&(decide (h.rows=p.rows)&&(decide (h.many=p.many)&&true))))) (by cases h;cases p;simp only[Hdr.mk.injEq,Bool.and_eq_true,decide_eq_true_eq,and_true])];exact jSq O O O O (zFq O O O (qqq O O) (zFq O O O (ywq O O O O O O _ _ _) (zFq O O O (ywq O O O O O O _ _ _) (zFq O O O (ywq O O O O O O _ _ _) (zFq O O O (qqq O O) kVq)))))
theorem seqd_s(a b:List Depo)(f g:Bool)(hb:a.length<=1000000000):PS cfg G 173 [.fz (a.map pdW) 34 f,.fz (b.map pdW) 34 g] (.bool (decide (a=b))):=by
 have ea:(a.map pdW).length=a.length:=List.length_map _;have eb:(b.map pdW).length=b.length:=List.length_map _;refine gI 9 O (λR k0=>gV (w':=.int .i64 (a.length:Int)) 0 O Yi (gV (w':=.int .i64 (b.length:Int)) 1 O Qg ?_));refine gS 3 O (λh1=>?_) (λh1=>?_)
 ·exact gQ 7 O Yb
 ·refine gV (w':=.int .i64 (a.length:Int)) 6 O Yi ?_;refine gLo (α:=Nat) 4 (λi=>i<=a.length/\a.take i=b.take i) (λi=>[(13,.int .i64 (i:Int))]) [0,1,4,12] (λi=>a.length-i) (0) rfl (⟨Nat.zero_le _,rfl⟩) (λi hI=>?_);obtain⟨g1,g2⟩:=hI;refine gS 6 O (λh2=>?_) (λh2=>?_)
  ·obtain⟨x,hx⟩:∃x,a[i]? =some x:=⟨_,List.getElem?_eq_getElem Xd⟩
   obtain⟨y,hy⟩:∃y,b[i]? =some y:=⟨_,List.getElem?_eq_getElem Xd⟩
   refine gP 14 O (zqq (i:=i) O O O O O O O (ziq pdW hx)) (gP 3 O (zqq (i:=i) O O O O O O O (ziq pdW hy)) (gUe 1 O (q4q O O O O (eq_pd _ _)) (qmq zZq) ?_));refine gS 2 O (λh3=>?_) (λh3=>?_)
   ·exact gO 8 O (gQ 2 O Yv)
   ·exact gA 4 O (i+1) (gAg 2 O (i+1) (⟨by omega,quq g2 hx hy (Classical.not_not.1 h3)⟩) Xd)
  ·exact gO 2 O (gQ 8 O Ye)
theorem seqx_s(a b:List Tx)(f g:Bool)(hb:a.length<=1000000000):PS cfg G 172 [.fz (a.map txW) 99 f,.fz (b.map txW) 99 g] (.bool (decide (a=b))):=by
 have ea:(a.map txW).length=a.length:=List.length_map _;have eb:(b.map txW).length=b.length:=List.length_map _;refine gI 9 O (λR k0=>gV (w':=.int .i64 (a.length:Int)) 0 O Yi (gV (w':=.int .i64 (b.length:Int)) 1 O Qg ?_));refine gS 3 O (λh1=>?_) (λh1=>?_)
 ·exact gQ 7 O Yb
 ·refine gV (w':=.int .i64 (a.length:Int)) 6 O Yi ?_;refine gLo (α:=Nat) 4 (λi=>i<=a.length/\a.take i=b.take i) (λi=>[(13,.int .i64 (i:Int))]) [0,1,4,12] (λi=>a.length-i) (0) rfl (⟨Nat.zero_le _,rfl⟩) (λi hI=>?_);obtain⟨g1,g2⟩:=hI;refine gS 6 O (λh2=>?_) (λh2=>?_)
  ·obtain⟨x,hx⟩:∃x,a[i]? =some x:=⟨_,List.getElem?_eq_getElem Xd⟩
   obtain⟨y,hy⟩:∃y,b[i]? =some y:=⟨_,List.getElem?_eq_getElem Xd⟩
   refine gP 14 O (zqq (i:=i) O O O O O O O (ziq txW hx)) (gP 3 O (zqq (i:=i) O O O O O O O (ziq txW hy)) (gUe 1 O (q4q O O O O (eq_tx _ _)) (qmq zZq) ?_));refine gS 2 O (λh3=>?_) (λh3=>?_)
   ·exact gO 8 O (gQ 2 O Yv)
   ·exact gA 4 O (i+1) (gAg 2 O (i+1) (⟨by omega,quq g2 hx hy (Classical.not_not.1 h3)⟩) Xd)
  ·exact gO 2 O (gQ 8 O Ye)
theorem seqr_s(a b:List RcI)(f g:Bool)(hb:a.length<=1000000000):PS cfg G 70 [.fz (a.map rcW) 34 f,.fz (b.map rcW) 34 g] (.bool (decide (a=b))):=by
 have ea:(a.map rcW).length=a.length:=List.length_map _;have eb:(b.map rcW).length=b.length:=List.length_map _;refine gI 9 O (λR k0=>gV (w':=.int .i64 (a.length:Int)) 0 O Yi (gV (w':=.int .i64 (b.length:Int)) 1 O Qg ?_));refine gS 3 O (λh1=>?_) (λh1=>?_)
 ·exact gQ 7 O Yb
 ·refine gV (w':=.int .i64 (a.length:Int)) 6 O Yi ?_;refine gLo (α:=Nat) 4 (λi=>i<=a.length/\a.take i=b.take i) (λi=>[(13,.int .i64 (i:Int))]) [0,1,4,12] (λi=>a.length-i) (0) rfl (⟨Nat.zero_le _,rfl⟩) (λi hI=>?_);obtain⟨g1,g2⟩:=hI;refine gS 6 O (λh2=>?_) (λh2=>?_)
  ·obtain⟨x,hx⟩:∃x,a[i]? =some x:=⟨_,List.getElem?_eq_getElem Xd⟩
   obtain⟨y,hy⟩:∃y,b[i]? =some y:=⟨_,List.getElem?_eq_getElem Xd⟩
   refine gP 14 O (zqq (i:=i) O O O O O O O (ziq rcW hx)) (gP 3 O (zqq (i:=i) O O O O O O O (ziq rcW hy)) (gUe 1 O (q4q O O O O (eq_rc _ _)) (qmq zZq) ?_));refine gS 2 O (λh3=>?_) (λh3=>?_)
   ·exact gO 8 O (gQ 2 O Yv)
   ·exact gA 4 O (i+1) (gAg 2 O (i+1) (⟨by omega,quq g2 hx hy (Classical.not_not.1 h3)⟩) Xd)
  ·exact gO 2 O (gQ 8 O Ye)
theorem rseqr_s(a b:List RcI)(f g:Bool)(hb:a.length<=1000000000):PS cfg G 190 [.fz (a.map rcW) 34 f,.fz (b.map rcW) 34 g] (.bool (decide (a=b))):=by
 have ea:(a.map rcW).length=a.length:=List.length_map _;have eb:(b.map rcW).length=b.length:=List.length_map _;refine gI 9 O (λR k0=>gV (w':=.int .i64 (a.length:Int)) 0 O Yi (gV (w':=.int .i64 (b.length:Int)) 1 O Qg ?_));refine gS 3 O (λh1=>?_) (λh1=>?_)
 ·exact gQ 7 O Yb
 ·refine gLo (α:=Nat) 9 (λi=>i<=a.length/\a.take i=b.take i) (λi=>[(5,.int .i64 (i:Int))]) [0,1,4] (λi=>a.length-i) (0) rfl (⟨Nat.zero_le _,rfl⟩) (λi hI=>?_);obtain⟨g1,g2⟩:=hI;refine gV (w':=.int .i64 (a.length:Int)) 5 O Yi ?_;refine gS 3 O (λh2=>?_) (λh2=>?_)
  ·obtain⟨x,hx⟩:∃x,a[i]? =some x:=⟨_,List.getElem?_eq_getElem Xd⟩
   obtain⟨y,hy⟩:∃y,b[i]? =some y:=⟨_,List.getElem?_eq_getElem Xd⟩
   refine gP 8 O (zqq (i:=i) O O O O O O O (ziq rcW hx)) (gP 3 O (zqq (i:=i) O O O O O O O (ziq rcW hy)) (gUe 1 O (q4q O O O O (eq_rc _ _)) (qmq zZq) ?_));refine gS 2 O (λh3=>?_) (λh3=>?_)
   ·exact gO 8 O (gQ 2 O Yv)
   ·exact gA 5 O (i+1) (gAg 2 O (i+1) (⟨by omega,quq g2 hx hy (Classical.not_not.1 h3)⟩) Xd)
  ·exact gO 2 O (gQ 8 O Ye)
theorem cld_s(l:List Depo)(f:Bool)(hl:l.length<=1000000000):PS cfg G 103 [.fz (l.map pdW) 34 f] (.fz (l.map pdW) 34 false):=by
 have e:(l.map pdW).length=l.length:=List.length_map _;have hp:∀l:List Depo,purL (l.map pdW)=true:=z3q pdW_pur
 refine gI 9 O (λR k0=>?_);first|refine yoq O O ?_|refine zLq rfl (jqq O O O O O (λbn hn=>?_))
 refine zpq 2 O ?_;refine gS 0 O (λh1=>?_) (λh1=>?_)
 ·cases bn with
  |false=>cases h1
  |true=>
   obtain rfl:l=[]:=List.map_eq_nil_iff.1 (hn rfl);exact ycq 7 O (y8q (fr2:=[(2,.fz [] 34 false)]) Qs ⟨⟨_,rfl,.nilfz⟩,trivial⟩ O O)
 ·cases l with
  |nil=>
   skip
   exact ycq 6 O (gM 0 O (z6q O O (joq O O O O O)) (zbq 4 O (y8q (fr2:=[(2,.fz [] 34 false)]) Qs ⟨⟨_,rfl,.sl O O O Xi⟩,trivial⟩ O O)))
  |cons c l=>
   simp only[List.length_cons] at hl e;exact ycq 6 O (gM 0 O (z6q O O (yZq (news:=(c::l).map pdW) (olds:=[]) O O O O O Xh (by show(0+((c::l).map pdW).length)*48<=_;rw[e];omega) Qd rfl (by show 0<0+(0+((c::l).map pdW).length)*34;rw[e];omega) O O)) (zbq 4 O (y8q (fr2:=[(2,.fz ((c::l).map pdW) 34 false)]) Qs ⟨⟨_,rfl,.sl rfl (hp _) (zkq Xl (Nat.zero_add _) (by rw[Nat.zero_add])) Xi⟩,trivial⟩ O O)))
theorem clx_s(l:List Tx)(f:Bool)(hl:l.length<=1000000000):PS cfg G 102 [.fz (l.map txW) 99 f] (.fz (l.map txW) 99 false):=by
 have e:(l.map txW).length=l.length:=List.length_map _;have hp:∀l:List Tx,purL (l.map txW)=true:=z3q txW_pur
 refine gI 9 O (λR k0=>?_);first|refine yoq O O ?_|refine zLq rfl (jqq O O O O O (λbn hn=>?_))
 refine zpq 2 O ?_;refine gS 0 O (λh1=>?_) (λh1=>?_)
 ·cases bn with
  |false=>cases h1
  |true=>
   obtain rfl:l=[]:=List.map_eq_nil_iff.1 (hn rfl);exact ycq 7 O (y8q (fr2:=[(2,.fz [] 99 false)]) Qs ⟨⟨_,rfl,.nilfz⟩,trivial⟩ O O)
 ·cases l with
  |nil=>
   skip
   exact ycq 6 O (gM 0 O (z6q O O (joq O O O O O)) (zbq 4 O (y8q (fr2:=[(2,.fz [] 99 false)]) Qs ⟨⟨_,rfl,.sl O O O Xi⟩,trivial⟩ O O)))
  |cons c l=>
   simp only[List.length_cons] at hl e;exact ycq 6 O (gM 0 O (z6q O O (yZq (news:=(c::l).map txW) (olds:=[]) O O O O O Xh (by show(0+((c::l).map txW).length)*120<=_;rw[e];omega) Qd rfl (by show 0<0+(0+((c::l).map txW).length)*99;rw[e];omega) O O)) (zbq 4 O (y8q (fr2:=[(2,.fz ((c::l).map txW) 99 false)]) Qs ⟨⟨_,rfl,.sl rfl (hp _) (zkq Xl (Nat.zero_add _) (by rw[Nat.zero_add])) Xi⟩,trivial⟩ O O)))
theorem clr_s(l:List RcI)(f:Bool)(hl:l.length<=1000000000):PS cfg G 181 [.fz (l.map rcW) 34 f] (.fz (l.map rcW) 34 false):=by
 have e:(l.map rcW).length=l.length:=List.length_map _;have hp:∀l:List RcI,purL (l.map rcW)=true:=z3q rcW_pur
 refine gI 9 O (λR k0=>?_);first|refine yoq O O ?_|refine zLq rfl (jqq O O O O O (λbn hn=>?_))
 refine zpq 2 O ?_;refine gS 0 O (λh1=>?_) (λh1=>?_)
 ·cases bn with
  |false=>cases h1
  |true=>
   obtain rfl:l=[]:=List.map_eq_nil_iff.1 (hn rfl);exact ycq 7 O (y8q (fr2:=[(2,.fz [] 34 false)]) Qs ⟨⟨_,rfl,.nilfz⟩,trivial⟩ O O)
 ·cases l with
  |nil=>
   skip
   exact ycq 6 O (gM 0 O (z6q O O (joq O O O O O)) (zbq 4 O (y8q (fr2:=[(2,.fz [] 34 false)]) Qs ⟨⟨_,rfl,.sl O O O Xi⟩,trivial⟩ O O)))
  |cons c l=>
   simp only[List.length_cons] at hl e;exact ycq 6 O (gM 0 O (z6q O O (yZq (news:=(c::l).map rcW) (olds:=[]) O O O O O Xh (by show(0+((c::l).map rcW).length)*48<=_;rw[e];omega) Qd rfl (by show 0<0+(0+((c::l).map rcW).length)*34;rw[e];omega) O O)) (zbq 4 O (y8q (fr2:=[(2,.fz ((c::l).map rcW) 34 false)]) Qs ⟨⟨_,rfl,.sl rfl (hp _) (zkq Xl (Nat.zero_add _) (by rw[Nat.zero_add])) Xi⟩,trivial⟩ O O)))
theorem rsbody_s(a:List Depo)(c:List Tx)(b:List Depo)(d:List Tx)(f1 f2 f3 f4:Bool)(hb:a.length<=1000000000)(hb2:c.length<=1000000000):PS cfg G 56 [bodW a c f1 f2,bodW b d f3 f4] (.bool (decide (a=b/\c=d))):=by
 have ea:(a.map pdW).length=a.length:=List.length_map _;have eb:(b.map pdW).length=b.length:=List.length_map _;have ec:(c.map txW).length=c.length:=List.length_map _;have ed:(d.map txW).length=d.length:=List.length_map _;refine gI 12 O (λR k0=>gV (w':=.int .i64 (a.length:Int)) 0 O Yi (gV (w':=.int .i64 (b.length:Int)) 2 O Qg ?_));refine gD 0 O (λh1=>?_) (λh1=>?_)
 ·exact gQ 19 O (by rw[decide_eq_false λh=>h1 (by rw[h.1])])
 refine gV (w':=.int .i64 (c.length:Int)) 3 O (by rw[<-ec];rfl) (gV (w':=.int .i64 (d.length:Int)) 2 O (by rw[<-ed];rfl) (gU 0 O ?_));refine gS 3 O (λh2=>?_) (λh2=>?_)
 ·exact gQ 7 O (by rw[decide_eq_false λh=>h2 (by rw[h.2])])
 ·refine gLo (α:=Nat) 9 (λi=>i<=a.length/\a.take i=b.take i) (λi=>[(5,.int .i64 (i:Int))]) [2,3,4] (λi=>a.length-i) (0) rfl (⟨Nat.zero_le _,rfl⟩) (λi hI=>?_);obtain⟨g1,g2⟩:=hI;refine gV (w':=.int .i64 (a.length:Int)) 6 O Yi ?_;refine gS 3 O (λh3=>?_) (λh3=>?_)
  ·obtain⟨x,hx⟩:∃x,a[i]? =some x:=⟨_,List.getElem?_eq_getElem Xd⟩
   obtain⟨y,hy⟩:∃y,b[i]? =some y:=⟨_,List.getElem?_eq_getElem Xd⟩
   refine gP 9 O (zqq (i:=i) O O O O O O O (ziq pdW hx)) (gP 4 O (zqq (i:=i) O O O O O O O (ziq pdW hy)) (gUe 1 O (q4q O O O O (eq_pd _ _)) (qmq zZq) ?_));refine gS 2 O (λh4=>?_) (λh4=>?_)
   ·exact gO 8 O (gQ 2 O (by rw[decide_eq_false λq=>Ztq hx hy h4 q.1]))
   ·exact gA 5 O (i+1) (gAg 2 O (i+1) (⟨by omega,quq g2 hx hy (Classical.not_not.1 h4)⟩) Xd)
  ·obtain rfl:=q7q (a:=a) (b:=b) Xd Xd g2;refine gO 2 O (zbq 9 O ?_);skip
   refine gLo (α:=Nat) 0 (λj=>j<=c.length/\c.take j=d.take j) (λj=>[(6,.int .i64 (j:Int))]) [2,3,4] (λj=>c.length-j) (0) rfl (⟨Nat.zero_le _,rfl⟩) (λj hI=>?_);obtain⟨k1,k2⟩:=hI;refine gV (w':=.int .i64 (c.length:Int)) 6 O (by rw[<-ec];rfl) ?_;refine gS 3 O (λh4=>?_) (λh4=>?_)
   ·obtain⟨x,hx⟩:∃x,c[j]? =some x:=⟨_,List.getElem?_eq_getElem Xd⟩
    obtain⟨y,hy⟩:∃y,d[j]? =some y:=⟨_,List.getElem?_eq_getElem Xd⟩
    refine gP 9 O (zqq (i:=j) O O O O O O O (ziq txW hx)) (gP 4 O (zqq (i:=j) O O O O O O O (ziq txW hy)) (gUe 1 O (q4q O O O O (eq_tx _ _)) (qmq zZq) ?_));refine gS 2 O (λh5=>?_) (λh5=>?_)
    ·exact gO 8 O (gQ 2 O (by rw[decide_eq_false λq=>Ztq hx hy h5 q.2]))
    ·exact gA 5 O (j+1) (gAg 2 O (j+1) (⟨by omega,quq k2 hx hy (Classical.not_not.1 h5)⟩) Xd)
   ·exact gO 2 O (gQ 8 O (by rw[decide_eq_true ⟨rfl,q7q Xd Xd k2⟩]))
theorem ygq{p:Prop} [Decidable p](h:¬p):W.bool false=W.bool (decide p):=congrArg W.bool (decide_eq_false h).symm
theorem dec_t{p:Prop} [Decidable p](h:p):W.bool true=W.bool (decide p):=congrArg W.bool (decide_eq_true h).symm
theorem dec_c{p q:Prop} [Decidable p] [Decidable q](h:q↔p):W.bool (decide q)=W.bool (decide p):=congrArg W.bool (decide_eq_decide.2 h)
noncomputable def bodyN:W:=.agg 2 [.nils,.nils]
noncomputable def lkZ:W:=.agg 102 [hdW hdZ,.int .i64 0,bodyN,.nils]
@[simp] theorem lkZ_pur:purW lkZ=true:=by simp[lkZ,bodyN,purW,purL]
noncomputable def lkA(l:List Lk)(i:Nat):W:=match l[i]? with
 |some x=>lkG x
 |none=>lkZ
noncomputable def prevW(l:List Lk):Nat->W
 |0=>lkZ
 |i+1=>lkA l i
@[simp] theorem lkA_pur(l:List Lk)(i:Nat):purW (lkA l i)=true:=by unfold lkA;split<;>simp
@[simp] theorem prev_pur(l:List Lk)(i:Nat):purW (prevW l i)=true:=by cases i<;>simp[prevW]
structure OkC(c:Ch):Prop where
 body:∀x∈c.links,BodOk x.ds x.xs
 nodes:c.tree.nodes.length<=4611686018427387903
 len:c.links.length<=4611686018427387903
 recs:∀x∈c.links,x.rs.length<=4611686018427387903
end
section
variable {C:Cfg} {G:Nat->Option W} {o:Oper} {fr:FrW} {hp:HpW} {nw:Nat} {R:Res} {post:W->HpW->Nat->Res->Option EvW->Prop}
theorem step_frz1{w w2 c:W}{ty:TypeId}(h:opHW C G fr hp nw o.op=some (w,(nw,ty,c)::hp,nw+1,.gen))(hc:purW c=true)(hv:View (blk1 nw c) w w2)(hpost:post w2 hp (nw+1) R (some .gen)):Step C G o fr hp nw R post:=λΓ X frv hnw s hf=>by
 subst hnw;obtain⟨v,h',Γ',h1,h2,h3,h4⟩:=opH_sim (rt:=o.type) hf s h;have sat:=h3.sat;have hb:hget ((Γ.nw,ty,c)::hp) Γ.nw=some (ty,c):=by rw[zmq,if_pos rfl]
 obtain⟨p1,p2,p3,u,p4,p5⟩:=sat.own _ _ _ hb;let Γ2:Ctx:=⟨Γ'.nw,Γ'.σ,λd=>Γ'.D d\/d=Γ'.σ Γ.nw,Γ'.h⟩
 have le:Γ'.Le Γ2:=⟨Nat.le_refl _,λ_ _=>rfl,λ_ h=>.inl h,λ_ _=>rfl⟩
 have q:Seen (blk1 Γ.nw c) Γ' Γ2:=⟨λ_ h _=>h,λ_ _ _=>rfl,λ_ h=>.inl h,λ_ _=>rfl,λk c' hk h=>by
  unfold blk1 at h;split at h
  ·rename_i e;rw[Nat.beq_eq] at e;subst e;cases h;exact⟨.inr rfl,u,u5q p4,p5⟩
  ·cases h⟩
 have hlt:Γ'.σ Γ.nw<Γ'.h.next:=by
  rcases Nat.lt_or_ge (Γ'.σ Γ.nw) Γ'.h.next with h|h
  ·exact h
  ·rw[sat.wf _ h] at p4;cases p4
 have hsub:∀k x,hget hp k=some x->k<Γ.nw/\hget ((Γ.nw,ty,c)::hp) k=some x:=λk x hk=>by
  have:=(s.own k x.1 x.2 hk).1;exact⟨this,by rw[zmq,if_neg Xd];exact hk⟩
 refine⟨0,w2,hp,R,some .gen,v,h',Γ2,X,?_,by simp only[opV,h1,h2],⟨h1,h4⟩,h3.hh,⟨Nat.le_trans h3.le.nw le.nw,h3.le.σ,λd h=>.inl (h3.le.D d h),h3.le.val⟩,⟨sat.wf,λk ty' w hk=>?_,λk k' x y hx hy e=>?_,s.nd,λd hd hX=>?_,sat.xlt,λd hd=>?_,R.st _ _ _ _ _ sat.res le.D le.val (λ_ _=>rfl) (Nat.le_refl _),sat.gl.mono le⟩,⟨h3.frm.sig,h3.frm.mle,h3.frm.next,h3.frm.keep,λd h=>.inl (h3.frm.dsub d h),λd hd=>?_,λk x _ hk=>⟨x,hk⟩,λk x hm hk=>?_,λ_ h=>.inl h,h3.frm.wmin⟩,ktq q hv h3.val⟩
 ·show post w2 hp Γ'.nw R _;rw[h3.nw];exact hpost
 ·obtain⟨g1,g2⟩:=hsub k _ hk;obtain⟨q1,q2,q3,u,q4,q5⟩:=sat.own _ _ _ g2;exact⟨q1,λh=>h.elim q2 λe=>by have:=sat.inj k _ _ _ g2 hb e;omega,q3,u,q4,q5.mono le⟩
 ·exact sat.inj _ _ _ _ (hsub k _ hx).2 (hsub k' _ hy).2 e
 ·rcases hd with h|rfl
  ·exact sat.dX d h hX
  ·exact p3 hX
 ·rcases hd with h|rfl
  ·exact sat.dlt d h
  ·exact hlt
 ·rcases hd with h|rfl
  ·exact h3.frm.dnew d h
  ·rcases h3.frm.onum Γ.nw _ (Nat.le_refl _) hb with h|⟨k,y,g1,g2,g3⟩
   ·exact .inr (.inr h)
   ·exact .inr (.inl (.inl ⟨k,y,g2,g3⟩))
 ·have:=(hsub k _ hk).1;omega
theorem step_nilz{w w2:W}(h:opHW C G fr hp nw o.op=some (w,hp,nw,.gen))(hv:View (λ_=>none) w w2)(hpost:post w2 hp (nw+1) R (some .gen)):Step C G o fr hp nw R post:=λΓ X frv hnw s hf=>by
 subst hnw;obtain⟨v,h',Γ',h1,h2,h3,h4⟩:=opH_sim (rt:=o.type) hf s h;have sat:=h3.sat;let Γ2:Ctx:=⟨Γ'.nw+1,Γ'.σ,Γ'.D,Γ'.h⟩
 have le:Γ'.Le Γ2:=⟨Nat.le_succ _,λ_ _=>rfl,λ_ h=>h,λ_ _=>rfl⟩;refine⟨0,w2,hp,R,some .gen,v,h',Γ2,X,?_,by simp only[opV,h1,h2],⟨h1,h4⟩,h3.hh,⟨Nat.le_trans h3.le.nw le.nw,h3.le.σ,h3.le.D,h3.le.val⟩,⟨sat.wf,λk ty' w hk=>?_,sat.inj,s.nd,sat.dX,sat.xlt,sat.dlt,R.st _ _ _ _ _ sat.res le.D le.val (λ_ _=>rfl) (Nat.le_refl _),sat.gl.mono le⟩,⟨h3.frm.sig,λh=>Nat.le_trans (h3.frm.mle h) (Nat.le_succ _),h3.frm.next,h3.frm.keep,h3.frm.dsub,h3.frm.dnew,h3.frm.oext,h3.frm.onum,λ_ h=>.inl h,h3.frm.wmin⟩,ktq (show Seen (λ_=>none) Γ' Γ2 from⟨λ_ h _=>Nat.lt_succ_of_lt h,λ_ _ _=>rfl,λ_ h=>h,λ_ _=>rfl,λ_ _ _ h=>Yz⟩) hv h3.val⟩
 ·show post w2 hp (Γ'.nw+1) R _;rw[h3.nw];exact hpost
 ·obtain⟨q1,q2,q3,u,q4,q5⟩:=sat.own _ _ _ hk;exact⟨Nat.lt_of_lt_of_le q1 (Nat.le_succ _),q2,q3,u,q4,q5.mono le⟩
theorem step_ap0{x y:Operand}{ts tx ty:TypeId}{j k:TyI}{e:Nat}{v:W}{news:List W}(ho:o.op= .call ⟨.builtin .append, #[x,y], #[ts,tx]⟩)(hx:evW C G fr x=some .nils)(hy:evW C G fr y=some v)(hj:C.ty ts=some j)(hd:j.d= .slice ty)(hk:C.ty ty=some k)(he:k.size=e)(hz:Nat.beq k.size 0=false)(hs:srcW C hp tx k.size v=some news)(hpu:purL news=true)(h1:news.length*k.bytes<=140737488355328)(h2:news.length<=70368744177664)(h:post (.fz news e false) hp (nw+1) R (some .gen)):Step C G o fr hp nw R post:=by
 subst he
 have hk0:0<k.size:=by
  rcases Nat.eq_zero_or_pos k.size with q|q
  ·rw[q] at hz;cases hz
  ·exact q
 cases news with
 |nil=>exact step_nilz (by rw[ho];exact z6q hx hy (v2q hj hd hk hz hs)) .nilfz h
 |cons z zs=>
  exact step_frz1 (by rw[ho];exact z6q hx hy (k0q hj hd hk hz hs Xh h1 h2)) (show purW (.arr _ _ (z::zs))=true from hpu) (.sl (full:=false) (c:=.arr ((z::zs).length*k.size) k.size (z::zs)) (by unfold blk1;rw[Nat.beq_refl]) hpu (zkq hk0 O O) Xi) h
end
theorem yOq{C:Cfg}{G:Nat->Option W}{f:FuncId}{m:Nat}{ws ws':List W}{hp:HpW}{Q:W->HpW->Nat->Prop}(h:ViewL (λ_=>none) ws ws')(sp:qoq C G f m ws' hp Q):qoq C G f m ws hp Q:=λR Γ X vs h1 s hv=>
 sp R Γ X vs h1 s (xDq ⟨λ_ h _=>h,λ_ _ _=>rfl,λ_ h=>h,λ_ _=>rfl,λ_ _ _ h=>Yz⟩ h hv)
section
attribute [local irreducible] CoW OpW FlW Step Spec
variable {G:Nat->Option W}
theorem half_pow(x:Nat){j:Nat}(h1:1<=j)(h2:j<=7):x/2^(7-j)/2=x/2^(7-(j-1)):=by
 rw[Nat.div_div_eq_div_mul,<-Nat.pow_succ,show(7-j).succ=7-(j-1) by omega]
theorem Qaq(k:Dig)(i:Nat)(h:i<256):PS cfg G 253 [dW k,.int .i64 (i:Int)] (.int .u8 (bitN k i:Nat)):=by
 have hk:=x7q k (i/8);refine gI 9 O (λR k0=>gA 0 O (i/8) (e:=(j0q i 8)) (gP 0 O (yBq (i:=i/8) O O O O O O Xd) (gM 0 O (zXq O O O (dW_ld k Xd)) ?_)));refine gLo (α:=Nat×Nat) 10 (λp=>p.1<=7/\i%8<=p.1/\p.2=kn k (i/8)/2^(7-p.1)/\p.2<=255) (λp=>[(6,.int .i64 (p.1:Int)),(5,.int .u8 (p.2:Nat))]) [1,4] (λp=>p.1) ((7,kn k (i/8))) rfl (⟨Nat.le_refl _,by show i%8<=7;omega,by simp,hk⟩) (λp hI=>?_);obtain⟨j,c⟩:=p;obtain⟨g1,g2,g3,g4⟩:=hI;simp only at g1 g2 g3 g4⊢;refine gV 5 O (congrArg (W.int .i64) (kuq i 8)) ?_;refine gS 3 O (λh1=>?_) (λh1=>?_)
 ·have hj:i%8<j:=by omega
  exact gA 6 O (c/2) (e:=(j0q c 2)) (gA 6 O (j-1) (gAg 2 O ((j-1,c/2)) (⟨by simp only;omega,by simp only;omega,by simp only[g3];exact half_pow _ Xd g1,by simp only;omega⟩) Yd))
 ·have hj:i%8=j:=by omega
  refine gO 2 O (gV (w':=.int .u8 ((c%2:Nat):Int)) 5 O (congrArg (W.int .u8) (kuq c 2)) (gQ 4 O ?_));rw[g3,<-hj];unfold bitN;rfl
theorem rshared_s(a b:Dig):PS cfg G 308 [dW a,dW b] (.int .i64 (zSq a b:Nat)):=by
 refine gI 14 O (λR k0=>?_);refine gLo (α:=Nat) 0 (λn=>n<=256/\∀j,j<n->bitN a j=bitN b j) (λn=>[(5,.int .i64 (n:Int))]) [2,3,4] (λn=>256-n) (0) rfl (⟨Nat.zero_le _,λj h=>by omega⟩) (λn hI=>?_);obtain⟨g1,g2⟩:=hI;refine gD 4 O (λh1=>?_) (λh1=>?_)
 ·have hn:n<256:=by omega
  refine gC 3 O (Qaq _ _ Xd) (gC 2 O (Qaq _ _ Xd) (gU 0 O ?_));refine gS 3 O (λh2=>?_) (λh2=>?_)
  ·exact gA 5 O (n+1) (gAg 3 O (n+1) (⟨hn,λj hj=>by rcases Nat.lt_succ_iff_lt_or_eq.1 hj with q|rfl;exact g2 j q;omega⟩) Xd)
  ·refine gO 2 O (gQ 9 O ?_);rw[xYq (jGq a b) (t:=n) ⟨g2,.inr ⟨hn,by omega⟩⟩]
 ·have hn:n=256:=by omega
  refine gO 14 O (gQ 9 O ?_);rw[xYq (jGq a b) (t:=n) ⟨g2,.inl hn⟩]
theorem rahead_s(a b:Dig):PS cfg G 326 [dW a,dW b] (.bool (yCq a b)):=by
 refine gI 11 O (λR k0=>gC 0 O (rshared_s _ _) ?_);refine gD 6 O (λh1=>?_) (λh1=>?_)
 ·have hn:zSq a b<256:=by omega
  refine gC 3 O (Qaq _ _ Xd) (gC 2 O (Qaq _ _ Xd) (gU 0 O (gQ 5 O ?_)));rw[QUq];exact congrArg W.bool (decide_eq_decide.2 Xd)
 ·refine gQ 13 O ?_;rw[QUq,decide_eq_false (show¬(zSq a b<256/\bitN a (zSq a b)<bitN b (zSq a b)) by omega)]
theorem xor_sub:∀x,x<256->∀e,e<8->x/2^e%2=1->2^e<=x/\x^^^2^e=x-2^e:=by decide+kernel
theorem xor_add:∀x,x<256->∀e,e<8->¬x/2^e%2=1->x+2^e<256/\x^^^2^e=x+2^e:=by decide+kernel
theorem rturn_in(k:Dig)(i:Nat)(h:i<256):PS cfg G 309 [dW k,.int .i64 (i:Int)] (.tup [dW (qaq k i),.int .i64 0]):=by
 have hk:=x7q k (i/8);refine gI 11 O (λR k0=>?_);refine gD 0 O (λh1=>?_) (λh1=>?_)
 ·exfalso;omega
 refine gU 2 O ?_;refine gS 3 O (λh2=>?_) (λh2=>?_)
 ·exfalso;omega
 refine gLo (α:=Nat×Nat) 14 (λp=>p.1<=7/\i%8<=p.1/\p.2=2^(7-p.1)) (λp=>[(7,.int .i64 (p.1:Int)),(6,.int .u8 (p.2:Nat))]) [1,2,4,5] (λp=>p.1) ((7,1)) rfl (⟨Nat.le_refl _,by show i%8<=7;omega,rfl⟩) (λp hI=>?_);obtain⟨j,c⟩:=p;obtain⟨g1,g2,g3⟩:=hI;simp only at g1 g2 g3⊢;refine gV 5 O (congrArg (W.int .i64) (kuq i 8)) ?_;refine gS 3 O (λh3=>?_) (λh3=>?_)
 ·have hj:i%8<j:=by omega
  have hc:2*c<=255:=by
   have:=pow_le (j-1);rw[show 7-(j-1)=7-j+1 by omega,Nat.pow_succ] at this;omega
  exact gA 6 O (2*c) (gA 6 O (j-1) (gAg 2 O ((j-1,2*c)) (⟨by simp only;omega,by simp only;omega,by simp only[g3];rw[show 7-(j-1)=7-j+1 by omega,Nat.pow_succ,Nat.mul_comm]⟩) Yd))
 ·have hj:i%8=j:=by omega
  subst hj;refine gO 2 O (gC 7 O (Qaq _ _ Xd) ?_);refine gS 3 O (λh4=>?_) (λh4=>?_)
  ·have hb:kn k (i/8)/2^(7-i%8)%2=1:=by
    have h4:((bitN k i:Nat):Int)=1:=h4;unfold bitN at h4;omega
   obtain⟨q1,q2⟩:=xor_sub _ Xd _ Xd hb;refine gA 2 O (i/8) (e:=(j0q i 8)) (gP 0 O (yBq (i:=i/8) O O O O O O Xd) (gM 0 O (zXq O O O (dW_ld k Xd)) (gA 1 O (kn k (i/8) -c) (gP 0 O (yBq (i:=i/8) O O O O O O Xd) (gM 0 O (qpq O O O O O (y2q (i:=0+i/8*1) Qc O O) rfl) (gQ 10 O ?_))))));rw[Nat.zero_add,Nat.mul_one,dW_set k (i/8) Xd,g3,<-q2];unfold qaq;rfl
  ·have hb:¬kn k (i/8)/2^(7-i%8)%2=1:=by
    have h4:¬((bitN k i:Nat):Int)=1:=h4;unfold bitN at h4;omega
   obtain⟨q1,q2⟩:=xor_add _ Xd _ Xd hb;refine gA 2 O (i/8) (e:=(j0q i 8)) (gP 0 O (yBq (i:=i/8) O O O O O O Xd) (gM 0 O (zXq O O O (dW_ld k Xd)) (gA 1 O (kn k (i/8)+c) (gP 0 O (yBq (i:=i/8) O O O O O O Xd) (gM 0 O (qpq O O O O O (y2q (i:=0+i/8*1) Qc O O) rfl) (gQ 10 O ?_))))));rw[Nat.zero_add,Nat.mul_one,dW_set k (i/8) Xd,g3,<-q2];unfold qaq;rfl
theorem uyq(l:List UInt8)(f:Bool):PS cfg G 307 [.fz (zaq l) 1 f] (.bool (valB l)):=by
 have e:=zeq l;refine gI 8 O (λR k0=>gV (w':=.int .i64 (l.length:Int)) 0 O Xu ?_);refine gD 0 O (λh1=>?_) (λh1=>?_)
 ·have h0:0<l.length:=by omega
  refine gV (w':=.int .i64 (l.length:Int)) 2 O Xu (gU 0 O (gQ 5 O ?_));unfold valB;rw[decide_eq_true h0,Bool.true_and];exact congrArg W.bool (decide_eq_decide.2 Xd)
 ·have h0:¬0<l.length:=by omega
  refine gQ 9 O ?_;unfold valB;rw[decide_eq_false h0,Bool.false_and]
theorem Y6q(l:List UInt8)(f:Bool)(hl:l.length<=70368744177664):PS cfg G 153 [.fz (zaq l) 1 f] (bW l):=by
 refine ps_inV (fn:=Tryz.f153) O O O (Ob rfl) (λR k0=>?_);cases l with
 |nil=>
  skip
  refine zKq 14 O (gM 0 O (z6q O O (v2q O O O O O)) (zbq 4 O (jZq Xo O ?_)))
  (repeat (first|exact .nil|refine .cons ?_ ?_|exact y4q|exact .nilfz|refine .fn ?_ ?_|(refine y9q O ?_ rfl;(first|rfl|(focus (simp;done))))|(refine .sl O ?_ rfl Xi;(first|rfl|(focus (simp;done))))|(refine .pur ?_;(first|rfl|(focus (simp;done))))|(refine .fzw ?_;(first|rfl|(focus (simp;done))))|refine .agg ?_|refine .arr ?_|refine .tup ?_))
 |cons c l=>
  simp only[List.length_cons] at hl;exact zKq 14 O (gM 0 O (z6q O O (k0q (news:=zaq (c::l)) (k:=ti5) O O O O O Yy (by show(zaq (c::l)).length*1<=_;rw[zeq];simp only[List.length_cons];omega) (by rw[zeq];simp only[List.length_cons];omega))) (zbq 4 O (jZq Xo O (view_sl Xl rfl Xh))))
@[simp] theorem psW_drop(ps:List Pr)(i:Nat):purL ((ps.map pW).drop i)=true:=by rw[<-List.map_drop];exact qrq _
@[simp] theorem psW_take(ps:List Pr)(i:Nat):purL ((ps.map pW).take i)=true:=by rw[<-List.map_take];exact qrq _
theorem rpsame_s(a b:List Pr)(f g:Bool)(hb:a.length<=1000000000):PS cfg G 120 [.fz (a.map pW) 33 f,.fz (b.map pW) 33 g] (.bool (decide (a=b))):=by
 have ea:(a.map pW).length=a.length:=List.length_map _;have eb:(b.map pW).length=b.length:=List.length_map _;refine gI 9 O (λR k0=>gV (w':=.int .i64 (a.length:Int)) 0 O Yi (gV (w':=.int .i64 (b.length:Int)) 1 O Qg ?_));refine gS 3 O (λh1=>?_) (λh1=>?_)
 ·refine gQ 7 O ?_;rw[decide_eq_false];rintro rfl;exact h1 rfl
 ·have hl:a.length=b.length:=by omega
  refine gLo (α:=Nat) 9 (λi=>i<=a.length/\a.take i=b.take i) (λi=>[(5,.int .i64 (i:Int))]) [0,1,4] (λi=>a.length-i) (0) rfl (⟨Nat.zero_le _,rfl⟩) (λi hI=>?_);obtain⟨g1,g2⟩:=hI;refine gV (w':=.int .i64 (a.length:Int)) 5 O Yi ?_;refine gS 3 O (λh2=>?_) (λh2=>?_)
  ·have hi:i<a.length:=by omega
   obtain⟨x,hx⟩:∃x,a[i]? =some x:=⟨_,List.getElem?_eq_getElem hi⟩
   obtain⟨y,hy⟩:∃y,b[i]? =some y:=⟨_,List.getElem?_eq_getElem Xd⟩
   have no:x≠y->decide (a=b)=false:=λh=>decide_eq_false λq=>h Yw
   refine gP 8 O (zqq (i:=i) O O O O O O O (ziq pW hx)) (gP 4 O (zqq (i:=i) O O O O O O O (ziq pW hy)) ?_);refine gDe 2 O (q4q O O O O (ywq O O O O O O _ _ 250)) (qmq zZq) (λh3=>?_) (λh3=>?_)
   ·exact gO 25 O (gQ 2 O (by rw[no λq=>h3 Yq]))
   ·have hk:x.1=y.1:=by simpa using h3
    refine gP 3 O (zqq (i:=i) O O O O O O O (ziq pW hx)) (gP 4 O (zqq (i:=i) O O O O O O O (ziq pW hy)) (gC 2 O (same_s _ _ _ _) ?_));refine gS 4 O (λh4=>?_) (λh4=>?_)
    ·exact gO 8 O (gQ 2 O (by rw[no λq=>by rw[q] at h4;simp at h4]))
    ·have hv:x.2=y.2:=by simpa using h4
     have hxy:x=y:=Prod.ext hk hv;exact gA 5 O (i+1) (gAg 2 O (i+1) (⟨hi,by rw[List.take_add_one,List.take_add_one,g2,hx,hy,hxy]⟩) Xd)
  ·refine gO 2 O (gQ 8 O ?_);rw[decide_eq_true];have:=g2;rw[List.take_of_length_le Xd,List.take_of_length_le Xd] at this;exact this
theorem Qrq(k:Dig)(v:List UInt8):MayP [(k,v)]↔valB v=true:=by
 constructor
 ·intro h;exact(h.2 0 Xh _ rfl).1
 ·intro h;refine⟨by simp,λi hi x hx=>?_⟩;obtain rfl:i=0:=by simpa using hi
  cases hx;exact⟨h,λy h0=>by omega⟩
theorem rone_s(x:Node)(n:Nat)(hn:n<=4611686018427387903):PS cfg G 257 [nW x,.int .i64 (n:Int)] (.bool (decide (oneB x n))):=by
 have e:=zeq x.val
 have yes:∀{b:Bool},x.leaf=true->b=(valB x.val&&decide (x.left=0)&&decide (x.right=0)) ->W.bool b=W.bool (decide (oneB x n)):=λ{b} h1 hb=>by
  rw[hb];congr 1
  rw[Bool.eq_iff_iff];simp only[Bool.and_eq_true,decide_eq_true_eq,oneB,if_pos h1,Qrq];exact⟨λ⟨⟨a,b⟩,c⟩=>⟨b,c,a⟩,λ⟨b,c,a⟩=>⟨⟨a,b⟩,c⟩⟩
 have no:¬x.leaf=true->¬((0<=x.left/\x.left<=n)/\(0<=x.right/\x.right<=n)/\0<x.left+x.right) ->W.bool false=W.bool (decide (oneB x n)):=λh1 h=>by
  rw[decide_eq_false];rw[oneB,if_neg h1];exact λq=>h ⟨q.1,q.2.1,q.2.2.2.2⟩
 have fork:∀{b:Bool},¬x.leaf=true->0<=x.left->x.left<=n->0<=x.right->x.right<=n->0<x.left+x.right->b=(decide (x.key=yyq)&&decide (x.val=[])) ->W.bool b=W.bool (decide (oneB x n)):=λ{b} h1 q1 q2 q3 q4 q5 hb=>by
  rw[hb];congr 1
  rw[Bool.eq_iff_iff];simp only[Bool.and_eq_true,decide_eq_true_eq,oneB,if_neg h1];exact⟨λ⟨a,c⟩=>⟨⟨q1,q2⟩,⟨q3,q4⟩,a,c,q5⟩,λh=>⟨h.2.2.1,h.2.2.2.1⟩⟩
 refine gI 13 O (λR k0=>?_);refine gS 0 O (λh1=>?_) (λh1=>?_)
 ·refine gC 4 O (uyq _ _) ?_;refine gB 0 O (λh2=>?_) (λh2=>?_)
  ·refine gD 3 O (λh3=>?_) (λh3=>?_)
   ·refine gU 4 O ?_;exact gQ 6 O Xv
   ·exact gQ 11 O Xv
  ·exact gQ 15 O Xv
 ·refine gD 7 O (λh2=>?_) (λh2=>?_)
  ·exact gQ 37 O Xv
  ·refine gD 4 O (λh3=>?_) (λh3=>?_)
   ·exact gQ 32 O Xv
   ·refine gD 4 O (λh4=>?_) (λh4=>?_)
    ·exact gQ 27 O Xv
    ·refine gD 5 O (λh5=>?_) (λh5=>?_)
     ·exact gQ 21 O Xv
     ·refine gD 4 O (λh6=>?_) (λh6=>?_)
      ·refine gU 3 O ?_;refine gS 4 O (λh7=>?_) (λh7=>?_)
       ·exact gQ 7 O Xv
       ·have h2:¬x.left<0:=h2;have h3:¬(n:Int)<x.left:=h3;have h4:¬x.right<0:=h4;have h5:¬(n:Int)<x.right:=h5;refine gV 6 O xuq ?_;refine gDe 0 O (yaq O O O O (ywq O O O O O O _ _ 250)) zZq (λh8=>?_) (λh8=>?_)
        ·refine gV (w':=.int .i64 (x.val.length:Int)) 3 O Xu ?_;refine gU 0 O ?_;refine zbq 5 O ?_;refine fin_eq Qs rfl (fork h1 Xd Xd Xd Xd Xd ?_);rw[decide_eq_true (by assumption:x.key=yyq),Bool.true_and];refine decide_eq_decide.2 ⟨λq=>List.eq_nil_of_length_eq_zero Xd,λq=>by rw[q];rfl⟩
        ·refine zbq 10 O ?_;refine fin_eq Qs rfl (fork h1 Xd Xd Xd Xd Xd ?_);rw[decide_eq_false (by assumption:¬x.key=yyq),Bool.false_and]
      ·have h2:¬x.left<0:=h2;have h3:¬(n:Int)<x.left:=h3;have h4:¬x.right<0:=h4;have h5:¬(n:Int)<x.right:=h5;refine gV 15 O xuq ?_;refine gDe 0 O (yaq O O O O (ywq O O O O O O _ _ 250)) zZq (λh7=>?_) (λh7=>?_)
       ·refine gV (w':=.int .i64 (x.val.length:Int)) 3 O Xu ?_;refine gU 0 O ?_;refine zbq 5 O ?_;refine fin_eq Qs rfl (fork h1 Xd Xd Xd Xd Xd ?_);rw[decide_eq_true (by assumption:x.key=yyq),Bool.true_and];refine decide_eq_decide.2 ⟨λq=>List.eq_nil_of_length_eq_zero Xd,λq=>by rw[q];rfl⟩
       ·refine zbq 10 O ?_;refine fin_eq Qs rfl (fork h1 Xd Xd Xd Xd Xd ?_);rw[decide_eq_false (by assumption:¬x.key=yyq),Bool.false_and]
def cntR(t:T)(d:Nat)(b:Dig):Int:=if t.ok d b=true then(match t with|.nil=>0|.leaf _ _=>1|.fork _ _=>2) else-1
theorem cntR_lt(t:T)(d:Nat)(b:Dig):cntR t d b<0↔¬t.ok d b=true:=by
 unfold cntR;split
 ·rename_i h;cases t<;>simp[h]
 ·rename_i h;simp[h]
theorem cntR_ge(t:T)(d:Nat)(b:Dig):0<=cntR t d b↔t.ok d b=true:=by
 have:=cntR_lt t d b;constructor
 ·intro h;refine Classical.byContradiction λq=>?_
  have:=this.2 q;omega
 ·intro h;refine Int.not_lt.1 λq=>this.1 q h
theorem cntR_fork{l r:T}{d:Nat}{b:Dig}(hd:d<256)(h1:¬cntR l (d+1) b<0)(h2:¬cntR r (d+1) (qaq b d)<0):cntR (.fork l r) d b=if cntR l (d+1) b+cntR r (d+1) (qaq b d)<2 then-1 else 2:=by
 have e1:l.ok (d+1) b=true:=(cntR_ge l _ _).1 Xd;have e2:r.ok (d+1) (qaq b d)=true:=(cntR_ge r _ _).1 Xd;have e:(T.fork l r).ok d b=T.two l r:=by simp only[T.ok];rw[decide_eq_true hd,e1,e2];rfl
 unfold cntR;rw[e,e1,e2];cases l<;>cases r<;>simp[T.two,T.isFork,T.non]
theorem cntR_le(t:T)(d:Nat)(b:Dig):cntR t d b<=2:=by
 unfold cntR;split
 ·cases t<;>simp
 ·omega
theorem cntR_no{l r:T}{d:Nat}{b:Dig}(h:¬(T.fork l r).ok d b=true):cntR (.fork l r) d b=-1:=by unfold cntR;rw[if_neg h]
theorem rright_s(t0:Tree)(hb:t0.nodes.length<=4611686018427387903):∀(t:T) (n d:Nat) (b:Dig),Rep t0.nodes n t->d<=256->PS cfg G 258 [tW t0,.int .i64 (n:Int),.int .i64 (d:Int),dW b] (.int .i64 (cntR t d b)):=by
 intro t;induction t with
 |nil=>
  intro n d b hr hd;obtain rfl:n=0:=by cases hr;rfl
  refine gI 14 O (λR k0=>?_);refine gS 0 O (λh1=>?_) (λh1=>?_)
  ·exact gQa 7 O
  ·exfalso;omega
 |leaf k v=>
  intro n d b hr hd;have hle:=hr.le;cases hr with
  |leaf h=>
  rename_i n l r;refine gI 14 O (λR k0=>?_);refine gS 0 O (λh1=>?_) (λh1=>?_)
  ·exfalso;omega
  ·refine gA 7 O (n) ?_;refine gP 0 O (zqq (i:=n) O O O O O O O (ziq nW h)) ?_;refine gC 19 O (rshared_s _ _) ?_;refine gS 4 O (λh2=>?_) (λh2=>?_)
   ·refine gQ 8 O ?_;unfold cntR;rw[if_neg];simp only[T.ok,decide_eq_true_eq];have h2:((zSq k b:Nat):Int)<d:=h2;omega
   ·refine gQ 9 O ?_;unfold cntR;rw[if_pos];simp only[T.ok,decide_eq_true_eq];have h2:¬((zSq k b:Nat):Int)<d:=h2;omega
 |fork tl tr ihL ihR=>
  intro n d b hr hd;have hle:=hr.le;cases hr with
  |fork h hl hr hL hR=>
  rename_i n l r k v;refine gI 14 O (λR k0=>?_);refine gS 0 O (λh1=>?_) (λh1=>?_)
  ·exfalso;omega
  ·refine gA 7 O (n) ?_;refine gP 0 O (zqq (i:=n) O O O O O O O (ziq nW h)) ?_;refine gS 22 O (λh2=>?_) (λh2=>?_)
   ·refine gQ 7 O ?_;rw[cntR_no λq=>by have:=(ok_fork.1 q).1;omega]
   ·have hd':d<256:=by omega
    refine gC 6 O (rturn_in _ _ Xd) ?_;refine gA 14 O (d+1) ?_;refine zbq 1 O ?_;refine yqq O O O O O O (ihL l (d+1) b hL Xd) ?_;refine zpq 10 O ?_;refine gS 0 O (λh3=>?_) (λh3=>?_)
    ·refine gQ 7 O ?_;rw[cntR_no λq=>(cntR_lt tl _ _).1 Xq (ok_fork.1 q).2.1]
    ·refine gA 8 O (d+1) ?_;refine zbq 1 O ?_;refine yqq O O O O O O (ihR r (d+1) (qaq b d) hR Xd) ?_;refine zpq 7 O ?_;refine gD 0 O (λh4=>?_) (λh4=>?_)
     ·refine gQ 16 O ?_;rw[cntR_no λq=>(cntR_lt tr _ _).1 Xq (ok_fork.1 q).2.2.1]
     ·have hc:=cntR_fork (l:=tl) (r:=tr) hd' h3 h4;have b1:=cntR_le tl (d+1) b;have b2:=cntR_le tr (d+1) (qaq b d);refine gWr 3 O ?_;refine gU 0 O ?_;refine gS 3 O (λh5=>?_) (λh5=>?_)
      ·exact gQ 7 O (by rw[hc,if_pos Xq])
      ·exact gQ 8 O (by rw[hc,if_neg Xq])
theorem rmay_s(t:Tree)(hb:t.nodes.length<=4611686018427387903):PS cfg G 188 [tW t] (.bool (decide (MayT t))):=by
 have e:(t.nodes.map nW).length=t.nodes.length:=List.length_map _;refine gI 11 O (λR k0=>gV (w':=.int .i64 (t.nodes.length:Int)) 0 O Xu ?_);refine gD 0 O (λh1=>?_) (λh1=>?_)
 ·have hno:¬MayT t:=λh=>by have:=h.1;omega
  exact gQ 23 O Xz
 refine gD 3 O (λh2=>?_) (λh2=>?_)
 ·have hno:¬MayT t:=λh=>by obtain⟨_,_,n,_,h,_⟩:=h;have h2:t.root<0:=h2;omega
  exact gQ 19 O Xz
 refine gV (w':=.int .i64 (t.nodes.length:Int)) 6 O Xu (gU 0 O ?_);refine gS 3 O (λh3=>?_) (λh3=>?_)
 ·have hno:¬MayT t:=λh=>by obtain⟨_,_,n,_,h,hr,_⟩:=h;have h3:(t.nodes.length:Int)<t.root:=h3;have:=hr.le;omega
  exact gQ 7 O Xz
 have h2:¬t.root<0:=h2;have h3:¬(t.nodes.length:Int)<t.root:=h3;obtain⟨n0,hn0⟩:=Int.eq_ofNat_of_zero_le (show 0<=t.root by omega);refine gLo (α:=Nat) 9 (λi=>i<=t.nodes.length/\∀j x,j<i->t.nodes[j]? =some x->oneB x j) (λi=>[(3,.int .i64 (i:Int))]) [1,2] (λi=>t.nodes.length-i) (0) rfl (⟨Nat.zero_le _,λj x hj=>by omega⟩) (λi hI=>?_);obtain⟨hi,hI⟩:=hI;refine gV (w':=.int .i64 (t.nodes.length:Int)) 6 O Xu ?_;refine gS 3 O (λh4=>?_) (λh4=>?_)
 ·have hi':i<t.nodes.length:=by omega
  obtain⟨x,hx⟩:∃x,t.nodes[i]? =some x:=⟨_,List.getElem?_eq_getElem hi'⟩
  refine gP 9 O (zqq (i:=i) O O O O O O O (ziq nW hx)) (gC 2 O (rone_s _ _ Xd) ?_);refine gS 3 O (λh5=>?_) (λh5=>?_)
  ·have hno:¬MayT t:=λh=>by have:=h.2.1 i x hx;simp[this] at h5
   exact gO 8 O (gQ 2 O Xz)
  ·have h5:oneB x i:=by simpa using h5
   exact gA 5 O (i+1) (gAg 2 O (i+1) (⟨hi',λj y hj hy=>by rcases Nat.lt_succ_iff_lt_or_eq.1 hj with h|rfl;exact hI j y h hy;exact(Option.some.inj (hx.symm.trans hy))▸h5⟩) Xd)
 ·have okn:okN t.nodes:=λj x hx=>hI j x (by have:=(List.getElem?_eq_some_iff.1 hx).1;omega) hx
  obtain⟨t0,ht0⟩:=rep_of okn n0 Xd
  have key:MayT t↔t0.ok 0 yyq=true:=by
   constructor
   ·rintro⟨_,_,n,t1,hn,hr,hk⟩;obtain rfl:n=n0:=by omega
    rw[ht0.uniq hr];exact hk
   ·exact λh=>⟨by omega,okn,n0,t0,hn0,ht0,h⟩
  refine gO 2 O (gV 7 O xuq (Ygq O O O O O (by rw[hn0];rfl) (rright_s t Xd t0 n0 0 yyq ht0 Xd) Xh Xh (op_cz O O (zpq 4 O (gQ 0 O ?_)))));rw[show decide (MayT t)=decide (0<=cntR t0 0 yyq) from decide_eq_decide.2 (key.trans (cntR_ge t0 0 yyq).symm)]
theorem rfor_s(t0:Tree)(hb:t0.nodes.length<=4611686018427387903):∀(t:T) (n:Nat),Rep t0.nodes n t->t.all.length<=1000000->(∀p∈t.all,p.2.length<=70368744177664) ->PL cfg G 249 [tW t0,.int .i64 (n:Int)] 149 33 (t.all.map pW):=by
 intro t;induction t with
 |nil=>
  intro n hr hl hv R;obtain rfl:n=0:=by cases hr;rfl
  refine gIs 13 O (λk0=>?_);refine gS 0 O (λh1=>?_) (λh1=>?_)
  ·exact zbq 7 O (fin (w:=gW 0 33 []) Qs (QGq (b:=0) (ty:=149) (l2:=[]) (H0:=[]) (fr2:=[]) 4 Xd Xd rfl trivial trivial (λx r h=>by cases h) rfl trivial List.nodup_nil) rfl ⟨rfl,rfl,rfl,rfl⟩)
  ·exfalso;omega
 |leaf k v=>
  intro n hr hl hv R;have hle:=hr.le;have hvl:=hv (k,v) (by simp[T.all]);simp only at hvl;cases hr with
  |leaf h=>
  rename_i n l r;refine gIs 13 O (λk0=>?_);refine gS 0 O (λh1=>?_) (λh1=>?_)
  ·exfalso;omega
  ·exact gA 7 O (n) (gP 0 O (zqq (i:=n) O O O O O O O (ziq nW h)) (zbq 19 O (QCq O O O O O O (Y6q v false hvl) Xh Xh Xt (ykq 7 O (fin (w:=gW 0 33 [pW (k,v)]) Qs (ent_one (b:=0) (x:=pW (k,v)) 2 4 Xd Xd Xd O O O O Xh) rfl ⟨rfl,rfl,rfl,rfl⟩)))))
 |fork tl tr ihL ihR=>
  intro n hr hl hv R;have hle:=hr.le;cases hr with
  |fork h hl0 hr0 hL hR=>
  rename_i n l r k v;have hlen:tl.all.length+tr.all.length<=1000000:=by simpa[T.all] using hl
  obtain⟨l1,e1⟩:∃q,q=tl.all.map pW:=⟨_,rfl⟩
  obtain⟨l2,e2⟩:∃q,q=tr.all.map pW:=⟨_,rfl⟩
  have P1:PL cfg G 249 [tW t0,.int .i64 (l:Int)] 149 33 l1:=e1▸ihL l hL Xd λp hp=>hv p Qi
  have P2:PL cfg G 249 [tW t0,.int .i64 (r:Int)] 149 33 l2:=e2▸ihR r hR Xd λp hp=>hv p Qi
  have p1:purL l1=true:=by rw[e1];exact qrq _
  have p2:purL l2=true:=by rw[e2];exact qrq _
  have hl1:l1.length<=1000000:=by rw[e1,List.length_map];omega
  have hl2:l2.length<=1000000:=by rw[e2,List.length_map];omega
  have e3:(T.fork tl tr).all.map pW=l1++l2:=by rw[e1,e2];simp[T.all]
  rw[e3];clear e1 e2 e3;refine gIs 13 O (λk0=>?_);refine gS 0 O (λh1=>?_) (λh1=>?_)
  ·exfalso;omega
  ·refine gA 7 O (n) (gP 0 O (zqq (i:=n) O O O O O O O (ziq nW h)) (zbq 20 O ?_));skip
   skip
   cases l1 with
   |nil=>
    cases l2 with
    |nil=>
     (refine yuq rfl (xbq O O O O O Xh P1 Xq ?_);refine⟨by first|rfl|kernel_rfl,?_⟩)
     refine ykq 3 O ?_
     (refine yuq rfl (xbq O O O O O Xh P2 Xq ?_);refine⟨by first|rfl|kernel_rfl,?_⟩)
     refine xoq rfl (z6q O O (v2q O O O O O)) Xt (ykq 4 O ?_);refine fin (w:=gW 0 33 ([]:List W)) Qs (QGq (b:=0) (ty:=149) (l2:=[]) (H0:=[]) (fr2:=[]) 4 Xd Xd rfl trivial trivial (λx r h=>by cases h) rfl trivial List.nodup_nil) rfl ⟨rfl,?_,?_,rfl⟩
     ·rfl
     ·rfl
    |cons y2 r2=>
     (refine yuq rfl (xbq O O O O O Xh P1 Xq ?_);refine⟨by first|rfl|kernel_rfl,?_⟩)
     refine ykq 3 O ?_
     (refine yuq rfl (xbq O O O O O Xh P2 Xq ?_);refine⟨by first|rfl|kernel_rfl,?_⟩)
     refine xoq rfl (z6q O O (k0q (news:=y2::r2) (k:=ti149) O O O O (yzq O O O (zkq Xl O O)) Xh (by show(y2::r2).length*56<=_;omega) Xd)) Xt (ykq 4 O ?_);refine fin (w:=gW 0 33 (y2::r2)) Qs (qhq (b:=0) (l2:=y2::r2) (H0:=[]) (fr2:=[]) 4 4 Xd Xd Xd Xh O O trivial trivial rfl p2 trivial List.nodup_nil) rfl ⟨rfl,?_,?_,rfl⟩
     ·rfl
     ·rfl
   |cons y1 r1=>
    cases l2 with
    |nil=>
     (refine yuq rfl (xbq O O O O O Xh P1 Xq ?_);refine⟨by first|rfl|kernel_rfl,?_⟩)
     refine ykq 3 O ?_
     (refine yuq rfl (xbq O O O O O Xh P2 Xq ?_);refine⟨by first|rfl|kernel_rfl,?_⟩)
     refine xoq rfl (z6q O O (joq (k:=ti149) O O O O O)) Xt (ykq 4 O ?_);refine fin (w:=gW 0 33 (y1::r1)) Qs (qhq (b:=0) (l2:=y1::r1) (H0:=[]) (fr2:=[]) 2 4 Xd Xd Xd Xh O O trivial trivial rfl p1 trivial List.nodup_nil) rfl ⟨rfl,?_,?_,rfl⟩
     ·rw[List.append_nil]
     ·rw[List.append_nil];rfl
    |cons y2 r2=>
     (refine yuq rfl (xbq O O O O O Xh P1 Xq ?_);refine⟨by first|rfl|kernel_rfl,?_⟩)
     refine ykq 3 O ?_
     (refine yuq rfl (xbq O O O O O Xh P2 Xq ?_);refine⟨by first|rfl|kernel_rfl,?_⟩)
     refine xoq rfl (z6q O O (yZq (len:=(y1::r1).length) (news:=y2::r2) (olds:=y1::r1) (k:=ti149) O O O O (yzq O O O (zkq Xl O O)) Xh (by show((y1::r1).length+(y2::r2).length)*56<=_;omega) Xd rfl (by show(y1::r1).length*33<0+((y1::r1).length+(y2::r2).length)*33;simp only[List.length_cons];omega) rfl (zkq Xl O O))) Xt (ykq 4 O ?_);refine fin (w:=gW 0 33 ((y1::r1)++(y2::r2))) Qs (qhq (b:=0) (l2:=(y1::r1)++(y2::r2)) (n:=(y1::r1).length+(y2::r2).length) (H0:=[]) (fr2:=[]) 4 4 Xd Xd Xd Xh rfl (by rw[List.length_append]) trivial trivial rfl (by rw[purL_app,p1,p2];rfl) trivial List.nodup_nil) rfl ⟨rfl,?_,?_,rfl⟩
     ·rfl
     ·rfl
theorem g_get(b e:Nat)(l:List W)(r:W):zVq 50 (.agg 2 [gW b e l,r]) 0 1 false=some (gW b e l):=by cases l<;>rfl
theorem g_put(b e:Nat)(l:List W)(r:W)(b' n:Nat):yMq 50 (.agg 2 [gW b e l,r]) 0 (.sl b' 0 0 n e none)=some (.agg 2 [.sl b' 0 0 n e none,r]):=by cases l<;>rfl
theorem tree_ext{a b:Tree}(h1:a.nodes=b.nodes)(h2:a.root=b.root):a=b:=by cases a;cases b;simp only at h1 h2;subst h1;subst h2;rfl
theorem node_ext{a b:Node}(h1:a.leaf=b.leaf)(h2:a.key=b.key)(h3:a.val=b.val)(h4:a.left=b.left)(h5:a.right=b.right):a=b:=by cases a;cases b;simp only at h1 h2 h3 h4 h5;subst h1;subst h2;subst h3;subst h4;subst h5;rfl
noncomputable instance(a b:Tree):Decidable (a=b):=Classical.propDecidable _
theorem Y7q(a b:Tree)(hb:a.nodes.length<=1000000000):PS cfg G 122 [tW a,tW b] (.bool (decide (a=b))):=by
 have ea:(a.nodes.map nW).length=a.nodes.length:=List.length_map _;have eb:(b.nodes.map nW).length=b.nodes.length:=List.length_map _;refine gI 14 O (λR k0=>?_);refine gD 0 O (λh1=>?_) (λh1=>?_)
 ·have hno:¬a=b:=λh=>h1 (by rw[h])
  exact gQ 19 O Xz
 have hroot:a.root=b.root:=by simpa using h1
 refine gV (w':=.int .i64 (a.nodes.length:Int)) 3 O Yi (gV (w':=.int .i64 (b.nodes.length:Int)) 2 O Qg (gU 0 O ?_));refine gS 3 O (λh2=>?_) (λh2=>?_)
 ·have hno:¬a=b:=λh=>h2 (by rw[h])
  exact gQ 7 O Xz
 have hlen:a.nodes.length=b.nodes.length:=by omega
 refine gLo (α:=Nat) 9 (λi=>i<=a.nodes.length/\a.nodes.take i=b.nodes.take i) (λi=>[(5,.int .i64 (i:Int))]) [2,3,4] (λi=>a.nodes.length-i) (0) rfl (⟨Nat.zero_le _,rfl⟩) (λi hI=>?_);obtain⟨g1,g2⟩:=hI;refine gV (w':=.int .i64 (a.nodes.length:Int)) 6 O Yi ?_;refine gS 3 O (λh3=>?_) (λh3=>?_)
 ·have hi:i<a.nodes.length:=by omega
  obtain⟨x,hx⟩:∃x,a.nodes[i]? =some x:=⟨_,List.getElem?_eq_getElem hi⟩
  obtain⟨y,hy⟩:∃y,b.nodes[i]? =some y:=⟨_,List.getElem?_eq_getElem Xd⟩
  have no:x≠y->¬a=b:=λh q=>h Yw
  refine gP 9 O (zqq (i:=i) O O O O O O O (ziq nW hx)) (gP 4 O (zqq (i:=i) O O O O O O O (ziq nW hy)) ?_);refine gD 13 O (λh4=>?_) (λh4=>?_)
  ·have hno:=no λq=>by rw[q] at h4;simp at h4
   exact gO 40 O (gQ 2 O Xz)
  refine gDe 5 O (q4q O O O O (ywq O O O O O O _ _ 250)) (qmq zZq) (λh5=>?_) (λh5=>?_)
  ·have hno:=no λq=>h5 Yq
   exact gO 34 O (gQ 2 O Xz)
  refine gC 6 O (same_s _ _ _ _) ?_;refine gB 0 O (λh6=>?_) (λh6=>?_)
  ·refine gD 7 O (λh7=>?_) (λh7=>?_)
   ·have hno:=no λq=>h7 Yq
    exact gO 19 O (gQ 2 O Xz)
   refine gU 6 O ?_;refine gS 3 O (λh8=>?_) (λh8=>?_)
   ·have hno:=no λq=>h8 Yq
    exact gO 8 O (gQ 2 O Xz)
   have hxy:x=y:=node_ext (by simpa using h4) (by simpa using h5) h6 (by simpa using h7) (by simpa using h8);exact gA 5 O (i+1) (gAg 2 O (i+1) (⟨hi,by rw[List.take_add_one,List.take_add_one,g2,hx,hy,hxy]⟩) Xd)
  ·have hno:=no λq=>h6 Yq
   exact gO 27 O (gQ 2 O Xz)
 ·refine gO 2 O (gQ 8 O ?_);rw[decide_eq_true];have:=g2;rw[List.take_of_length_le Xd,List.take_of_length_le Xd] at this;exact tree_ext this hroot
theorem rall_s(t:Tree)(n:Nat)(t0:T)(h:IsT t n t0):PS cfg G 183 [tW t] (psW t0.all):=by
 have h1:=h.all_le;have h2:=h.len;have h3:=h.root;obtain⟨ns,root⟩:=t;simp only at h1 h2 h3;subst h3;have P:=(rfor_s (G:=G) ⟨ns,(n:Int)⟩ Qj t0 n h.rep Xd (λp hp=>by have:=(h.val p hp).2;omega)).ps Xl (qrq _);exact gI 11 O (λR k0=>Ygq O O O O O O P Xh Xh (zpq 4 O (gQa 0 O)))
structure SmallC(c:Ch):Prop where
 nodes:c.tree.nodes.length<=1000000
 vals:∀x∈c.tree.nodes,x.val.length<=70368744177664
 len:c.links.length<=1000000
 link:∀x∈c.links,x.ds.length<=1000000/\x.xs.length<=1000000/\x.rs.length<=1000000
def GreatC(c:Ch)(n:Nat):Prop:=GreatB c.tree 900\/n<c.links.length\/∃x∈c.links,GreatK x.ds x.xs\/40<x.rs.length
noncomputable instance(c:Ch)(n:Nat):Decidable (GreatC c n):=Classical.propDecidable _
end
theorem p32:(4294967296:Nat)=2^32:=by decide
noncomputable def fz{α:Type}(n:Nat)(c:Nat->α):α:=Nat.rec (c 0) (λm _=>c (Nat.succ m)) n
structure S8.Ok(s:S8):Prop where
 a:s.a<4294967296
 b:s.b<4294967296
 c:s.c<4294967296
 d:s.d<4294967296
 e:s.e<4294967296
 f:s.f<4294967296
 g:s.g<4294967296
 h:s.h<4294967296
theorem xWq(a b:Nat):addN a b<4294967296:=Nat.mod_lt _ Xl
theorem rnd_ok{s:S8}(h:s.Ok)(k w:Nat):(roundN k w s).Ok:=⟨xWq _ _,h.a,h.b,h.c,xWq _ _,h.e,h.f,h.g⟩
noncomputable def wS(bs:Nat->Nat)(i:Nat):Nat:=(z7q bs (i+1)).getD i 0
theorem rounds_ok{s:S8}(h:s.Ok)(ws:List Nat):∀t,(k3q ws s t).Ok
 |0=>h
 |t+1=>rnd_ok (rounds_ok h ws t) _ _
theorem word_eq{b0 b1 b2 b3:Nat}(h0:b0<256)(h1:b1<256)(h2:b2<256)(h3:b3<256):wordN b0 b1 b2 b3=Nat.lor (Nat.lor (Nat.lor (Nat.shiftLeft b0 24) (Nat.shiftLeft b1 16)) (Nat.shiftLeft b2 8)) b3:=by
 have s:∀b n,b<256->n<=24->Nat.shiftLeft b n<4294967296:=λb n hb hn=>by
  show b<<<n<4294967296;rw[Nat.shiftLeft_eq];have:2^n<=2^24:=Nat.pow_le_pow_right Xl hn;have:=Nat.mul_le_mul (show b<=255 by omega) this;omega
 have e:∀b n,b<256->n<=24->shlN (b%4294967296) n=Nat.shiftLeft b n:=λb n hb hn=>by
  unfold shlN;rw[Nat.min_eq_left Xd,Nat.mod_eq_of_lt (show b<4294967296 by omega),Nat.mod_eq_of_lt (s b n hb hn)]
 have o:∀a b,a<4294967296->b<4294967296->orN a b=Nat.lor a b:=λa b ha hb=>by
  unfold orN;rw[Nat.mod_eq_of_lt ha,Nat.mod_eq_of_lt hb]
 have ol:∀a b,a<4294967296->b<4294967296->Nat.lor a b<4294967296:=λa b ha hb=>by
  rw[p32] at*
  exact Nat.or_lt_two_pow ha hb
 unfold wordN;rw[e b0 24 h0 Xl,e b1 16 h1 Xl,e b2 8 h2 Xl,Nat.mod_eq_of_lt (show b3<4294967296 by omega)];rw[o _ _ (s b0 24 h0 Xl) (s b1 16 h1 Xl),o _ _ (ol _ _ (s b0 24 h0 Xl) (s b1 16 h1 Xl)) (s b2 8 h2 Xl),o _ _ (ol _ _ (ol _ _ (s b0 24 h0 Xl) (s b1 16 h1 Xl)) (s b2 8 h2 Xl)) Xd]
noncomputable def small(l:List Nat):Prop:=∀b∈l,b<256
theorem small_at{l:List Nat}(h:small l)(i:Nat):atL l i<256:=by
 unfold atL;rw[List.getD_eq_getElem?_getD];cases hq:l[i]? with
 |none=>show(0:Nat)<256;decide
 |some b=>exact h b (List.mem_of_getElem? hq)
theorem block_ok(s:S8)(bs:Nat->Nat):(qYq bs s).Ok:=⟨xWq _ _,xWq _ _,xWq _ _,xWq _ _,xWq _ _,xWq _ _,xWq _ _,xWq _ _⟩
theorem pad_eq:∀(n:Nat) (r:List Nat),(120-r.length%64)%64<=n->padZ n r=r++List.replicate ((120-r.length%64)%64) 0
 |0,r,h=>by
  rw[Nat.le_zero.1 h];simp[padZ]
 |n+1,r,h=>by
  unfold padZ;cases hb:Nat.beq (r.length%64) 56 with
  |true=>
   have:=Nat.eq_of_beq_eq_true hb;rw[this];simp
  |false=>
   have hne:r.length%64≠56:=λe=>by rw[e] at hb;cases hb
   show padZ n (r++[0])=_;have hl:(r++[0]).length=r.length+1:=by simp
   rw[pad_eq n (r++[0]) (by rw[hl];omega),hl,List.append_assoc];have:(120-r.length%64)%64=(120-(r.length+1)%64)%64+1:=by omega
   rw[this];rfl
section
attribute [local irreducible] CoW OpW FlW Step Spec
variable {G:Nat->Option W}
noncomputable def rotT(x n:Nat):Nat:=orN (shrN x n) (shlN x (32-n))
theorem rotT_eq{x n:Nat}(hn:n<=32):rotT x n=rotN x n:=by
 unfold rotT rotN orN shrN shlN;rw[Nat.min_eq_left hn,Nat.min_eq_left (Nat.sub_le _ _)];exact Nat.or_comm _ _
theorem qwq(n:Nat)(hn:n=2\/n=6\/n=7\/n=11\/n=13\/n=17\/n=18\/n=19\/n=22\/n=25)(x:Nat):PS cfg G 352 [wd x,wd n] (wd (rotN x n)):=by
 have key:∀h,qfq cfg 20 352 [.int .u32 (.ofNat x),.int .u32 (.ofNat n)] h=some (.int .u32 (.ofNat (rotT x n)),h):=by
  intro h;rcases hn with rfl|rfl|rfl|rfl|rfl|rfl|rfl|rfl|rfl|rfl<;>kernel_rfl
 have e:rotT x n=rotN x n:=rotT_eq Xd;rw[e] at key;refine kiq (spec_run key (λΓ us h=>?_) (λΓ=>RV_int.2 rfl)) λw hp nw h=>h.1
 obtain⟨v,vs,rfl,h1,h2⟩:=RVL_cons.1 h;obtain⟨v',vs',rfl,h3,h4⟩:=RVL_cons.1 h2;rw[RVL_nil.1 h4,RV_int.1 h1,RV_int.1 h3]
theorem sub_not{e:Nat}(he:e<4294967296):4294967295-e=notN e:=by
 unfold notN;rw[Nat.mod_eq_of_lt he];have h:=BitVec.toNat_not (x:=BitVec.ofNat 32 e);rw[<-BitVec.allOnes_xor] at h;simp only[BitVec.toNat_xor,BitVec.toNat_allOnes,BitVec.toNat_ofNat] at h;rw[Nat.mod_eq_of_lt (show e<2^32 from he)] at h;exact h.symm
theorem wrap_not{e:Nat}(he:e<4294967296):W.int .u32 (j4q .u32 ((4294967295:Int) -Int.ofNat e))=wd (notN e):=by
 rw[<-sub_not he]
 have:(4294967295:Int) -Int.ofNat e=((4294967295-e:Nat):Int):=by
  show(4294967295:Int) -(e:Int)=_;omega
 rw[this];show W.int .u32 (((4294967295-e)%4294967296:Nat):Int)=W.int .u32 ((4294967295-e:Nat):Int);rw[Nat.mod_eq_of_lt Xd]
theorem rround_s(v:S8)(hv:v.Ok)(k w:Nat):PS cfg G 348 [.arr 8 1 v.l,wd k,wd w] (.arr 8 1 (roundN k w v).l):=by
 refine gI 8 O (λR k0=>?_);refine gX 0 O ?_;refine gX 1 O ?_;refine gX 1 O ?_;refine gX 1 O ?_;refine gX 1 O ?_;refine gX 1 O ?_;refine gX 1 O ?_;refine gX 1 O ?_;refine gC 15 O (qwq _ Xh _) ?_;refine gC 1 O (qwq _ Xh _) ?_;refine gC 2 O (qwq _ Xh _) ?_;refine gV (w':=wd (notN v.e)) 6 O (wrap_not hv.e) ?_;refine gC 14 O (qwq _ Xh _) ?_;refine gC 1 O (qwq _ Xh _) ?_;refine gC 2 O (qwq _ Xh _) ?_;exact gQa 35 O
theorem words_s:PS cfg G 346 [] (.arr 64 1 (kW.map wd)):=by
 exact gI 12 O (λR k0=>gQa 0 O)
noncomputable def horn(bs:Nat->Nat)(t:Nat):Nat->Nat
 |0=>0
 |i+1=>addN (256*horn bs t i%4294967296) (bs (4*t+i))
theorem horn_word{bs:Nat->Nat}(hb:∀i,bs i<256)(t:Nat):horn bs t 4=wordN (bs (4*t)) (bs (4*t+1)) (bs (4*t+2)) (bs (4*t+3)):=by
 have h0:=hb (4*t);have h1:=hb (4*t+1);have h2:=hb (4*t+2);have h3:=hb (4*t+3);rw[word_eq h0 h1 h2 h3];have e1:=Nat.shiftLeft_add_eq_or_of_lt (i:=8) (b:=bs (4*t+1)) Xd (bs (4*t));have s:∀a i:Nat,Nat.shiftLeft a i=a*2^i:=λa i=>Nat.shiftLeft_eq a i
 have o1:Nat.lor (Nat.shiftLeft (bs (4*t)) 24) (Nat.shiftLeft (bs (4*t+1)) 16)=bs (4*t)*16777216+bs (4*t+1)*65536:=by
  have:=Nat.shiftLeft_add_eq_or_of_lt (i:=24) (b:=bs (4*t+1)*65536) Xd (bs (4*t));rw[Nat.shiftLeft_eq] at this;rw[s (bs (4*t+1)) 16];show bs (4*t)<<<24|||(bs (4*t+1)*2^16)=_
  rw[Nat.shiftLeft_eq];exact this.symm
 have o2:Nat.lor (bs (4*t)*16777216+bs (4*t+1)*65536) (Nat.shiftLeft (bs (4*t+2)) 8)=bs (4*t)*16777216+bs (4*t+1)*65536+bs (4*t+2)*256:=by
  have q:bs (4*t)*16777216+bs (4*t+1)*65536=(bs (4*t)*256+bs (4*t+1))*65536:=by rw[Nat.add_mul,Nat.mul_assoc]
  have:=Nat.shiftLeft_add_eq_or_of_lt (i:=16) (b:=bs (4*t+2)*256) Xd (bs (4*t)*256+bs (4*t+1));rw[Nat.shiftLeft_eq,show(2:Nat)^16=65536 from rfl] at this;rw[s];show(bs (4*t)*16777216+bs (4*t+1)*65536)|||(bs (4*t+2)*256)=_
  rw[q];exact this.symm
 have o3:Nat.lor (bs (4*t)*16777216+bs (4*t+1)*65536+bs (4*t+2)*256) (bs (4*t+3))=bs (4*t)*16777216+bs (4*t+1)*65536+bs (4*t+2)*256+bs (4*t+3):=by
  have q:bs (4*t)*16777216+bs (4*t+1)*65536+bs (4*t+2)*256=(bs (4*t)*65536+bs (4*t+1)*256+bs (4*t+2))*256:=by rw[Nat.add_mul,Nat.add_mul,Nat.mul_assoc,Nat.mul_assoc]
  have:=Nat.shiftLeft_add_eq_or_of_lt (i:=8) (b:=bs (4*t+3)) Xd (bs (4*t)*65536+bs (4*t+1)*256+bs (4*t+2));rw[Nat.shiftLeft_eq,show(2:Nat)^8=256 from rfl] at this;show(bs (4*t)*16777216+bs (4*t+1)*65536+bs (4*t+2)*256)|||bs (4*t+3)=_
  rw[q];exact this.symm
 rw[o1,o2,o3];simp only[horn,addN];rw[show 4*t+0=4*t from rfl];omega
noncomputable def bsL(l:List UInt8):Nat->Nat:=atL (l.map UInt8.toNat)
theorem bsL_lt(l:List UInt8)(i:Nat):bsL l i<256:=small_at (λb hb=>by obtain⟨c,_,rfl⟩:=List.mem_map.1 hb;exact c.toNat_lt) i
theorem bsL_at{l:List UInt8}{i:Nat}(h:i<l.length):(zaq l)[i]? =some (.int .u8 ((bsL l i:Nat):Int)):=by
 unfold zaq bsL atL;rw[List.getElem?_map,List.getElem?_eq_getElem h];simp[List.getD,List.getElem?_eq_getElem h]
theorem pad0_snoc{L:List Nat}{n:Nat}(h:L.length<n):pad0 (L++[0]) n=pad0 L n:=by
 unfold pad0;rw[show n-L.length=(n-(L++[0]).length)+1 by simp;omega,List.replicate_succ,List.append_assoc];rfl
theorem pad0_last{L:List Nat}{n x:Nat}(h:L.length<n):((pad0 (L++[x]) n).map wd)[L.length]? =some (wd x):=by
 rw[pad0_at Xh];simp[List.getD]
theorem pad0_turn{L:List Nat}{n x y:Nat}(h:L.length<n):((pad0 (L++[x]) n).map wd).set L.length (wd y)=(pad0 (L++[y]) n).map wd:=by
 rw[<-List.map_set];congr 1
 unfold pad0;rw[show(L++[x]).length=(L++[y]).length by simp,List.append_assoc,List.append_assoc,List.set_append_right _ _ (Nat.le_refl _),Nat.sub_self];rfl
noncomputable def schH(L:List Nat):HpW:=[(1,388,.arr 64 1 ((pad0 L 64).map wd)),(0,388,.arr 64 1 (List.replicate 64 (wd 0)))]
theorem sched_s(l:List UInt8)(f:Bool)(hl:l.length=64):PS cfg G 347 [.fz (zaq l) 1 f] (.arr 64 1 ((z7q (bsL l) 64).map wd)):=by
 obtain⟨bs,eb⟩:∃bs,bsL l=bs:=⟨_,rfl⟩
 have hb:∀i,bs i<256:=λi=>by rw[<-eb];exact bsL_lt l i
 have hat:∀i,i<64->(zaq l)[i]? =some (.int .u8 ((bs i:Nat):Int)):=λi hi=>by rw[<-eb];exact bsL_at Xd
 rw[eb];refine gI 17 O (λR k0=>?_);refine yLq (α:=Nat) (λt=>t<=16) (λt=>[(4,.int .i64 (t:Int))]) [(0,_),(2,_),(3,_)] (λt=>schH (z7q bs t)) (λt=>16-t) (0) ⟨rfl,rfl,rfl,trivial⟩ (Nat.zero_le _) ⟨rfl,trivial⟩ (rfl) (λt hI=>?_);have hsl:=xdq bs t;refine zKq 7 O ?_;refine gS 0 O (λh1=>?_) (λh1=>?_)
 ·have ht:t<16:=by omega
  refine zbq 10 O ?_;refine yLq (α:=Nat) (λi=>i<=4) (λi=>[(5,.int .i64 (i:Int))]) [(0,_),(2,_),(3,_),(4,_),(9,_),(10,_)] (λi=>schH (z7q bs t++[horn bs t i])) (λi=>4-i) (0) ⟨rfl,rfl,rfl,rfl,rfl,rfl,trivial⟩ (Nat.zero_le _) ⟨rfl,trivial⟩ (by show schH (z7q bs t)=schH (z7q bs t++[0]);unfold schH;rw[pad0_snoc Xd]) (λi hI=>?_);have hc:=hb (4*t+i);have hL:((pad0 (z7q bs t++[horn bs t i]) 64).map wd)[0+t*1]? =some (wd (horn bs t i)):=by have:=pad0_last (L:=z7q bs t) (n:=64) (x:=horn bs t i) Xd;rw[hsl] at this;rw[Nat.zero_add,Nat.mul_one];exact this
  refine zKq 7 O ?_;refine gS 0 O (λh2=>?_) (λh2=>?_)
  ·have hi:i<4:=by omega
   have hset:((pad0 (z7q bs t++[horn bs t i]) 64).map wd).set (0+t*1) (wd (horn bs t (i+1)))=(pad0 (z7q bs t++[horn bs t (i+1)]) 64).map wd:=by have:=pad0_turn (L:=z7q bs t) (n:=64) (x:=horn bs t i) (y:=horn bs t (i+1)) Xd;rw[hsl] at this;rw[Nat.zero_add,Nat.mul_one];exact this
   refine gP 7 O (yBq (i:=t) O O O O O O Xd) (gM 0 O (zXq O O O (yrq hL rfl)) (gV (w':=wd (256*horn bs t i%4294967296)) 0 O O (gA 2 O (4*t) (gA 1 O (4*t+i) (gP 0 O (zqq (i:=4*t+i) O O O O O O O (hat _ Xd)) (gA 1 O (bs (4*t+i)) (gV (w':=wd (horn bs t (i+1))) 0 O O (gP 0 O (yBq (i:=t) O O O O O O Xd) (gM 0 O (qpq O O O O O (y2q hL O O) rfl) (gA 5 O (i+1) (zbq 2 O ?_)))))))))));skip
   exact y1q (i+1) hi Xd ⟨rfl,trivial⟩ ⟨rfl,rfl,rfl,rfl,rfl,rfl,trivial⟩ Yt
  ·have hi:i=4:=by omega
   subst hi
   have hnx:z7q bs (t+1)=z7q bs t++[horn bs t 4]:=by
    rw[horn_word hb];show z7q bs t++[kPq bs (z7q bs t)]=_;unfold kPq;rw[hsl,show Nat.blt t 16=true from Nat.ble_eq_true_of_le ht]
   refine zbq 2 O (qbq Xi (z0q 5 O (gA 0 O (t+1) (zbq 2 O ?_))));skip
   exact y1q (t+1) ht Xd ⟨rfl,trivial⟩ ⟨rfl,rfl,rfl,trivial⟩ (by rw[hnx])
 ·have ht:t=16:=by omega
  subst ht;refine zbq 2 O (qbq Xi (z0q 9 O ?_));refine yLq (α:=Nat) (λu=>16<=u/\u<=64) (λu=>[(6,.int .i64 (u:Int))]) [(2,_),(3,_)] (λu=>schH (z7q bs u)) (λu=>64-u) (16) ⟨rfl,rfl,trivial⟩ (⟨by omega,by omega⟩) ⟨rfl,trivial⟩ (rfl) (λu hI=>?_);obtain⟨g1,g2⟩:=hI;have hsu:=xdq bs u;refine zKq 7 O ?_;refine gS 0 O (λh2=>?_) (λh2=>?_)
  ·have hu:u<64:=by omega
   obtain⟨L,eL⟩:∃L,z7q bs u=L:=⟨_,rfl⟩
   rw[eL] at hsu⊢;have hat2:∀i,i<u->((pad0 L 64).map wd)[0+i*1]? =some (wd (L.getD i 0)):=λi hi=>by rw[Nat.zero_add,Nat.mul_one];exact pad0_at Xd
   have hge:((pad0 L 64).map wd)[0+u*1]? =some (wd 0):=by have:=pad0_ge (l:=L) (n:=64) Xd;rw[hsu] at this;rw[Nat.zero_add,Nat.mul_one];exact this
   have hnx:kPq bs L=addN (addN (addN (L.getD (u-16) 0) (xorN (xorN (rotN (L.getD (u-15) 0) 7) (rotN (L.getD (u-15) 0) 18)) (shrN (L.getD (u-15) 0) 3))) (L.getD (u-7) 0)) (xorN (xorN (rotN (L.getD (u-2) 0) 17) (rotN (L.getD (u-2) 0) 19)) (shrN (L.getD (u-2) 0) 10)):=by
    have hbl:Nat.blt u 16=false:=by
     cases hq:Nat.blt u 16 with
     |false=>rfl
     |true=>have:=Ob hq;omega
    unfold kPq;rw[hsu,hbl]
   have hset:((pad0 L 64).map wd).set (0+u*1) (wd (kPq bs L))=(pad0 (z7q bs (u+1)) 64).map wd:=by
    have:=pad0_set (l:=L) (n:=64) (x:=kPq bs L) Xd;rw[hsu] at this;rw[Nat.zero_add,Nat.mul_one,this];show _=(pad0 (z7q bs u++[kPq bs (z7q bs u)]) 64).map wd;rw[eL]
   refine gA 7 O (u-15) (gP 0 O (yBq (i:=u-15) O O O O O O Xd) (gM 0 O (zXq O O O (yrq (hat2 (u-15) Xd) rfl)) (gA 1 O (u-2) (gP 0 O (yBq (i:=u-2) O O O O O O Xd) (gM 0 O (zXq O O O (yrq (hat2 (u-2) Xd) rfl)) (gA 7 O (u-16) (gP 0 O (yBq (i:=u-16) O O O O O O Xd) (gM 0 O (zXq O O O (yrq (hat2 (u-16) Xd) rfl)) (gC 1 O (qwq _ Xh _) (gC 1 O (qwq _ Xh _) (gA 6 O (u-7) (gP 0 O (yBq (i:=u-7) O O O O O O Xd) (gM 0 O (zXq O O O (yrq (hat2 (u-7) Xd) rfl)) (gC 2 O (qwq _ Xh _) (gC 1 O (qwq _ Xh _) (gV (w':=wd (kPq bs L)) 4 O (by rw[hnx];rfl) (gP 0 O (yBq (i:=u) O O O O O O Xd) (gM 0 O (qpq O O O O O (y2q hge O O) rfl) (gA 5 O (u+1) (zbq 2 O ?_))))))))))))))))))));skip
   exact y1q (u+1) ⟨by omega,hu⟩ Xd ⟨rfl,trivial⟩ ⟨rfl,rfl,trivial⟩ Yt
  ·have hu:u=64:=by omega
   subst hu;refine zbq 2 O (qbq Xi (z0q 9 O ?_));have ep:pad0 (z7q bs 64) 64=z7q bs 64:=by unfold pad0;rw[hsu];simp
   exact gQ 0 O (by rw[ep])
theorem rnumber_s(l:List UInt8)(f:Bool)(hl:l.length<=8):PS cfg G 310 [.fz (zaq l) 1 f] (.int .u64 (numB l:Nat)):=by
 have e:=zeq l;refine gI 17 O (λR k0=>?_);refine gLo (α:=Nat) 0 (λi=>i<=l.length) (λi=>[(4,.int .i64 (i:Int)),(3,.int .u64 (numB (l.take i):Nat))]) [0,2] (λi=>l.length-i) (0) rfl (Nat.zero_le _) (λi hI=>?_);refine gV (w':=.int .i64 (l.length:Int)) 5 O Xu ?_;refine gS 3 O (λh1=>?_) (λh1=>?_)
 ·have hi:i<l.length:=by omega
  obtain⟨c,hc⟩:∃c,l[i]? =some c:=⟨_,List.getElem?_eq_getElem hi⟩
  have hcl:=c.toNat_lt;have hn:=vxq (l:=l) (i:=i) Xd;have ht:=numB_take hc
  have hlt:numB (l.take (i+1))<18446744073709551616:=by
   have h1:=numB_lt (l.take (i+1));have h2:256^(l.take (i+1)).length<=256^(i+1):=Nat.pow_le_pow_right Xd Xn;have h3:=pow256_le (i:=i+1) Xd;omega
  exact gA 6 O (256*numB (l.take i)) (gP 2 O (zqq (i:=i) O O O O O O O (koq hc)) (gA 1 O (c.toNat) (gA 0 O (numB (l.take (i+1))) (e:=(by rw[ht];omega)) (gA 6 O (i+1) (gAg 2 O (i+1) (hi) Xd)))))
 ·have hi:i=l.length:=by omega
  subst hi;rw[List.take_length];exact gO 2 O (gQa 9 O)
theorem jLq(n size:Nat)(hn:n<18446744073709551616)(hs8:size<=8):qoq cfg G 298 0 [.int .u64 (n:Int),.int .i64 (size:Int)] [] λw hp nw=>
  w= .tup [.sl 0 0 0 size 1 none,.bool (decide (n/256^size=0))]/\hp=[(0,5,.arr (size*1) 1 (zaq (beB size n)))]/\nw=1:=by
 intro R;refine gIs 9 O (λk0=>?_);refine gM 0 O (kRq (l:=size) (c:=size) O O O O O O O O (Nat.le_refl _) (by show 1*size<=_;omega) Xd O O) (zbq 7 O (op_z ((size:Int) -1-((0:Nat):Int)) O O Xd ⟨by omega,by omega⟩ (zpq 4 O ?_)));refine yLq (α:=Nat×Nat) (λp=>p.1<=size/\p.2=n/256^p.1) (λp=>[(7,.int .i64 ((size:Int) -1-(p.1:Int))),(0,.int .u64 (p.2:Nat))]) [(4,_),(5,_),(6,_)] (λp=>[(0,5,.arr (size*1) 1 (zaq (List.replicate (size-p.1) 0++beB p.1 n)))]) (λp=>size-p.1) ((0,n)) ⟨rfl,rfl,rfl,trivial⟩ (⟨Nat.zero_le _,by simp⟩) ⟨rfl,rfl,trivial⟩ (by simp only[be_zero];rfl) (λp hI=>?_);obtain⟨i,q⟩:=p;obtain⟨g1,g2⟩:=hI;simp only at g1 g2⊢;have hlt:q<18446744073709551616:=by rw[g2];exact Nat.lt_of_le_of_lt (Nat.div_le_self _ _) hn
 refine zKq 7 O ?_;refine gS 0 O (λh1=>?_) (λh1=>?_)
 ·have hi:i<size:=by omega
  have hq:q/256=n/256^(i+1):=by rw[g2,Nat.div_div_eq_div_mul,<-Nat.pow_succ]
  have hset:=be_set n size i hi;rw[<-g2] at hset;exact gV (w':=.int .i64 ((size-1-i:Nat):Int)) 7 O (by congr 1;omega) (gV (w':=.int .u64 ((q%256:Nat):Int)) 1 O (congrArg (W.int .u64) (kuq q 256)) (gA 0 O (q%256) (gP 0 O (qQq (i:=size-1-i) O O O O O O O Xd) (gM 0 O (qpq O O O O O (y2q (be_at n size i hi) O O) (congrArg (λL=>[(0,5,W.arr (size*1) 1 L)]) hset)) (gA 4 O (q/256) (e:=(j0q q 256)) (zbq 6 O (op_z ((size:Int) -1-((i+1:Nat):Int)) O O Xd ⟨by omega,by omega⟩ (run_p 2 O (y1q ((i+1,q/256)) (⟨hi,hq⟩) Yd ⟨rfl,rfl,trivial⟩ ⟨rfl,rfl,rfl,trivial⟩ rfl)))))))))
 ·have hi:i=size:=by omega
  subst hi;refine zbq 2 O (qbq Xi (z0q 6 O (gV (w':=.bool (decide (n/256^i=0))) 0 O (congrArg W.bool (by rw[Bool.eq_iff_iff,eqI_iff,decide_eq_true_iff,<-g2];omega)) (zbq 5 O ?_))));refine fin Qs Ent.refl rfl ⟨rfl,rfl,?_,rfl⟩;rw[Nat.sub_self];rfl
theorem raread_s(l:List UInt8)(f:Bool):PS cfg G 259 [.fz (zaq l) 1 f] (.tup [aW (qIq l).1,.int .i64 ((qIq l).2:Nat)]):=by
 have e:=zeq l;refine gIv 10 O (λR k0=>gV (w':=.int .i64 (l.length:Int)) 0 O Xu ?_);refine gS 3 O (λh1=>?_) (λh1=>?_)
 ·have q:qIq l=(.zero,10):=by unfold qIq;rw[if_pos Xd]
  rw[q];refine zbq 9 O (jZq Xo O ?_)
  (repeat (first|exact .nil|refine .cons ?_ ?_|exact y4q|exact .nilfz|refine .fn ?_ ?_|(refine y9q O ?_ rfl;(first|rfl|(focus (simp;done))))|(refine .sl O ?_ rfl Xi;(first|rfl|(focus (simp;done))))|(refine .pur ?_;(first|rfl|(focus (simp;done))))|(refine .fzw ?_;(first|rfl|(focus (simp;done))))|refine .agg ?_|refine .arr ?_|refine .tup ?_))
 refine gV (w':=.int .i64 (l.length:Int)) 6 O Xu ?_;refine gS 3 O (λh2=>?_) (λh2=>?_)
 ·have q:qIq l=(.zero,11):=by unfold qIq;rw[if_neg Xd,if_pos Xd]
  rw[q];refine zbq 9 O (jZq Xo O ?_)
  (repeat (first|exact .nil|refine .cons ?_ ?_|exact y4q|exact .nilfz|refine .fn ?_ ?_|(refine y9q O ?_ rfl;(first|rfl|(focus (simp;done))))|(refine .sl O ?_ rfl Xi;(first|rfl|(focus (simp;done))))|(refine .pur ?_;(first|rfl|(focus (simp;done))))|(refine .fzw ?_;(first|rfl|(focus (simp;done))))|refine .agg ?_|refine .arr ?_|refine .tup ?_))
 have hl:l.length=16:=by omega
 have q:qIq l=if (⟨numB (l.take 8),numB (l.drop 8)⟩:Acct)= .zero then(.zero,8) else(⟨numB (l.take 8),numB (l.drop 8)⟩,0):=by unfold qIq;rw[if_neg Xd,if_neg Xd]
 rw[q];refine gP 5 O (cut_fz (ys:=zaq (l.take 8)) (l:=0) (h:=8) O O O O O O O Xd Xd (by rw[List.drop_zero,Z0q]) rfl) (gC 0 O (rnumber_s _ _ Xn) (gP 1 O (cut_fz (ys:=zaq (l.drop 8)) (l:=8) (h:=(zaq l).length) O O O O O O O Xd (Nat.le_refl _) (by rw[List.take_of_length_le Xh,Z1q]) rfl) (gC 0 O (rnumber_s _ _ Xn) ?_)));refine gD 10 O (λh3=>?_) (λh3=>?_)
 ·have z1:numB (l.take 8)=0:=by omega
  refine gU 3 O ?_;refine gS 3 O (λh4=>?_) (λh4=>?_)
  ·have z2:numB (l.drop 8)=0:=by omega
   rw[if_pos (by rw[z1,z2];rfl)];refine zbq 9 O (jZq Xo O ?_)
   (repeat (first|exact .nil|refine .cons ?_ ?_|exact y4q|exact .nilfz|refine .fn ?_ ?_|(refine y9q O ?_ rfl;(first|rfl|(focus (simp;done))))|(refine .sl O ?_ rfl Xi;(first|rfl|(focus (simp;done))))|(refine .pur ?_;(first|rfl|(focus (simp;done))))|(refine .fzw ?_;(first|rfl|(focus (simp;done))))|refine .agg ?_|refine .arr ?_|refine .tup ?_))
  ·have z2:¬numB (l.drop 8)=0:=by omega
   rw[if_neg λh=>z2 (by injection h)];refine zbq 10 O (jZq Xo O ?_)
   (repeat (first|exact .nil|refine .cons ?_ ?_|exact y4q|exact .nilfz|refine .fn ?_ ?_|(refine y9q O ?_ rfl;(first|rfl|(focus (simp;done))))|(refine .sl O ?_ rfl Xi;(first|rfl|(focus (simp;done))))|(refine .pur ?_;(first|rfl|(focus (simp;done))))|(refine .fzw ?_;(first|rfl|(focus (simp;done))))|refine .agg ?_|refine .arr ?_|refine .tup ?_))
 ·have z1:¬numB (l.take 8)=0:=by omega
  rw[if_neg λh=>z1 (by injection h)];refine zbq 18 O (jZq Xo O ?_)
  (repeat (first|exact .nil|refine .cons ?_ ?_|exact y4q|exact .nilfz|refine .fn ?_ ?_|(refine y9q O ?_ rfl;(first|rfl|(focus (simp;done))))|(refine .sl O ?_ rfl Xi;(first|rfl|(focus (simp;done))))|(refine .pur ?_;(first|rfl|(focus (simp;done))))|(refine .fzw ?_;(first|rfl|(focus (simp;done))))|refine .agg ?_|refine .arr ?_|refine .tup ?_))
def padJ(l:List UInt8)(j:Nat):List UInt8:=l++[128]++List.replicate j 0
theorem uGq(l:List UInt8)(j:Nat):(padJ l j).length=l.length+1+j:=by simp[padJ];omega
theorem padJ_next(l:List UInt8)(j:Nat):zaq (padJ l (j+1))=zaq (padJ l j)++zaq [0]:=by
 rw[<-yYq];congr 1
 unfold padJ;rw[List.append_assoc (l++[128]),<-List.replicate_succ']
noncomputable def padH(l:List UInt8)(j:Nat):HpW:=[(0,5,.arr (padJ l j).length 1 (zaq (padJ l j)))]
def padR(l:List UInt8):List UInt8:=padJ l ((119-l.length%64)%64)++beB 8 (8*l.length)
theorem padded_s(l:List UInt8)(f:Bool)(hl:l.length<2147483648):PS cfg G 345 [.fz (zaq l) 1 f] (bW (padR l)):=by
 have el:(zaq l).length=l.length:=zeq l;refine gIv 14 O (λR k0=>?_);refine uIq (λ_=>xsq (fr2:=[(0,.fz (zaq l) 1 f),(2,.nils),(7,gW 0 1 []),(8,.fz (zaq l) 1 f)]) ⟨rfl,rfl,rfl,rfl,trivial⟩) ?_;refine op_grow (b:=0) (xs:=[]) (news:=zaq l) (k:=ti5) (H0:=[]) [] [(0,.fz (zaq l) 1 f),(2,.nils)] O O O O O O O O O O O (by show(0+(zaq l).length)*1<=_;omega) (by show 0+(zaq l).length<=_;omega) rfl Xh Xd Xd ⟨rfl,rfl,trivial⟩ rfl ⟨zdq (show purW (.fz (zaq l) 1 f)=true from qnq l),rfl,trivial⟩ Xh trivial Xh ?_
 refine zpq 7 O ?_;refine op_grow (b:=0) (xs:=zaq l) (news:=zaq [128]) (k:=ti5) (H0:=[]) [_] [(0,.fz (zaq l) 1 f),(2,.nils)] O O O O O O O O O O (yzq O O O O) (by show((zaq l).length+1)*1<=_;omega) (by show(zaq l).length+1<=_;omega) rfl Xh Xd Xd ⟨rfl,rfl,trivial⟩ rfl ⟨zdq (show purW (.fz (zaq l) 1 f)=true from qnq l),rfl,trivial⟩ (by rw[<-yYq];simp) trivial Xh ?_;refine zpq 5 O ?_;have e0:zaq l++zaq [128]=zaq (padJ l 0):=by rw[<-yYq];congr 1;simp[padJ]
 have hne:zaq (padJ l 0)≠[]:=λh=>by have:=congrArg List.length h;rw[zeq,uGq] at this;simp at this
 have htm:∀n:Nat,((n:Int)).tmod 64=((n%64:Nat):Int):=λn=>by rw[Int.tmod_eq_emod_of_nonneg Xd];omega
 refine qRq (α:=Nat) (λj=>∀i,i<j->(l.length+1+i)%64≠56) (λj=>[(3,.sl 0 0 0 (padJ l j).length 1 none),(0,.fz (zaq l) 1 f),(2,.nils)]) (λj=>padH l j) (λ_=>1) (λ_=>R) (λj=>64-j) 0 (λi hi=>absurd hi Xd) (yXq ⟨by show some (gW 0 1 (zaq l++zaq [128]))=_;rw[e0,ubq hne,zeq],rfl,rfl,trivial⟩ (by show []++gH 0 5 1 (zaq l++zaq [128])=padH l 0;rw[e0,ucq hne,zeq,Nat.mul_one];rfl) rfl) (λj hj=>?_);skip
 have hj64:j<64:=by
  refine Nat.lt_of_not_le λh=>?_
  have:=hj ((56+64-(l.length+1)%64)%64) Xd;omega
 have hlj:=uGq l j;refine zKq 4 O ?_;refine gZ 0 O hlj ?_;refine gV 0 O (congrArg (W.int .i64) (htm _)) ?_;refine gS 3 O (λh1=>?_) (λh1=>?_)
 ·have h1:¬(((l.length+1+j)%64:Nat):Int)=56:=h1;refine gM 6 O (z6q O O (yZq (k:=ti5) (len:=(padJ l j).length) (news:=zaq [0]) (olds:=zaq (padJ l j)) O O O O (yzq O O O O) Yy (by show((padJ l j).length+1)*1<=_;omega) (by show(padJ l j).length+1<=_;omega) rfl (by show(padJ l j).length<0+((padJ l j).length+1)*1;omega) rfl (zkq Xl (zeq _).symm (Nat.mul_one _).symm))) ?_;refine zbq 3 O ?_;have hl2:(padJ l j).length+1=(padJ l (j+1)).length:=by rw[uGq,uGq];omega
  have hp:purW (.fz (zaq l) 1 f)=true:=qnq l;skip
  refine y7q (j+1) (λi hi=>?_) (show 64-(j+1)<64-j by omega) ?_
  ·rcases Nat.lt_succ_iff_lt_or_eq.1 hi with h|rfl
   ·exact hj i h
   ·omega
  ·refine yKq (b:=0) (k:=2) Xd Xd (by show 2<3;omega) ⟨⟨?_,rfl⟩,⟨by rw[ztq hp];rfl,zdq hp⟩,⟨rfl,rfl⟩,trivial⟩ ⟨⟨by show 0<1;omega,?_,zdq (show purW (.arr _ 1 (zaq _))=true from qnq _)⟩,trivial⟩ (by show([0]:List Nat).Nodup;simp)
   ·show some (W.sl 2 0 0 ((padJ l j).length+1) 1 none)=some (W.sl 2 0 0 (padJ l (j+1)).length 1 none);rw[hl2]
   ·show some (5,W.arr (((padJ l j).length+1)*1) 1 (zaq (padJ l j)++zaq [0]))=some (5,renW _ (W.arr (padJ l (j+1)).length 1 (zaq (padJ l (j+1)))));rw[ztq (show purW (.arr _ 1 (zaq _))=true from qnq _),hl2,padJ_next,Nat.mul_one]
 ·have h56:(l.length+1+j)%64=56:=by omega
  obtain rfl:j=(119-l.length%64)%64:=by omega
  generalize hj0:(119-l.length%64)%64=j at*
  refine zbq 2 O ?_;refine qbq Xi ?_;refine z0q 5 O ?_;refine gV (w':=.int .i64 (l.length:Int)) 0 O (by rw[<-el];rfl) ?_;refine gWr 0 O ?_;refine gA 0 O (8*l.length) ?_;refine zbq 15 O ?_;obtain⟨n,en⟩:∃n,n=8*l.length:=⟨_,rfl⟩
  rw[<-en];have hn:n<18446744073709551616:=by omega
  refine yLq (α:=Nat×Nat) (λp=>p.1<=8/\p.2=n/256^p.1) (λp=>[(6,.int .i64 ((7:Int) -(p.1:Int))),(4,.int .u64 (p.2:Nat))]) [(2,_),(3,_),(5,_)] (λp=>(1,456,.arr 8 1 (zaq (List.replicate (8-p.1) 0++beB p.1 n)))::padH l j) (λp=>8-p.1) ((0,n)) ⟨rfl,rfl,rfl,trivial⟩ (⟨Nat.zero_le _,by simp⟩) ⟨rfl,rfl,trivial⟩ (rfl) (λp hI=>?_);obtain⟨i,q⟩:=p;obtain⟨g1,g2⟩:=hI;simp only at g1 g2⊢;have hlt:q<18446744073709551616:=by rw[g2];exact Nat.lt_of_le_of_lt (Nat.div_le_self _ _) hn
  refine zKq 7 O ?_;refine gS 0 O (λh2=>?_) (λh2=>?_)
  ·have hi:i<8:=by omega
   have hq:q/256=n/256^(i+1):=by rw[g2,Nat.div_div_eq_div_mul,<-Nat.pow_succ]
   have hset:=be_set n 8 i hi;rw[<-g2] at hset;refine gV (w':=.int .i64 ((8-1-i:Nat):Int)) 6 O (by congr 1;omega) ?_;refine gV (w':=.int .u64 ((q%256:Nat):Int)) 1 O (congrArg (W.int .u64) (kuq q 256)) ?_;refine gA 0 O (q%256) ?_;refine gP 0 O (yBq (i:=8-1-i) O O O O O O Xd) ?_;refine gM 0 O (qpq O O O O O (y2q (be_at n 8 i hi) O O) (congrArg (λL=>(1,456,W.arr 8 1 L)::padH l j) hset)) ?_;refine gA 4 O (q/256) (e:=(j0q q 256)) ?_;refine zbq 6 O ?_;refine op_z ((7:Int) -((i+1:Nat):Int)) O O Xd ⟨by omega,by omega⟩ ?_;refine run_p 2 O ?_;exact y1q ((i+1,q/256)) (⟨hi,hq⟩) Yd ⟨rfl,rfl,trivial⟩ ⟨rfl,rfl,rfl,trivial⟩ rfl
  ·have hi:i=8:=by omega
   subst hi;have hN:(zaq (beB 8 n)).length=8:=by rw[zeq,q5q]
   refine zbq 2 O ?_;refine qbq Xi ?_;refine z0q 6 O ?_;refine gM 0 O (z6q O O (yZq (k:=ti5) (len:=(padJ l j).length) (news:=zaq (beB 8 n)) (olds:=zaq (padJ l j)) O O O O (yzq O O O (zkq Xl hN.symm rfl)) Yr (by rw[hN];show(_+8)*1<=_;omega) (by rw[hN];omega) rfl (by rw[hN];show(padJ l j).length<0+(_+8)*1;omega) rfl (zkq Xl (zeq _).symm (Nat.mul_one _).symm))) ?_;refine zbq 4 O ?_;have er:zaq (padR l)=zaq (padJ l j)++zaq (beB 8 n):=by unfold padR;rw[hj0,<-en,yYq]
   have el2:(padR l).length=(padJ l j).length+(zaq (beB 8 n)).length:=by rw[<-zeq,er,List.length_append,zeq (padJ l j)]
   exact jZq Qs rfl (.sl (full:=false) (c:=.arr (padR l).length 1 (zaq (padR l))) (xs:=zaq (padR l)) (by show some (W.arr (((padJ l j).length+(zaq (beB 8 n)).length)*1) 1 (zaq (padJ l j)++zaq (beB 8 n)))=_;rw[er,el2,Nat.mul_one]) (show purW (.arr _ 1 (zaq _))=true from qnq _) (by rw[<-el2];exact zkq Xl (zeq _).symm (Nat.mul_one _).symm) Xi)
end
theorem next_congr{bs bs':Nat->Nat}(h:∀i,i<64->bs i=bs' i)(L:List Nat):kPq bs L=kPq bs' L:=by
 unfold kPq;cases hq:Nat.blt L.length 16 with
 |false=>rfl
 |true=>
  have hn:L.length<16:=Ob hq;show wordN (bs (4*L.length)) (bs (4*L.length+1)) (bs (4*L.length+2)) (bs (4*L.length+3))=wordN (bs' (4*L.length)) (bs' (4*L.length+1)) (bs' (4*L.length+2)) (bs' (4*L.length+3));rw[h (4*L.length) Xd,h (4*L.length+1) Xd,h (4*L.length+2) Xd,h (4*L.length+3) Xd]
theorem Zcq{bs bs':Nat->Nat}(h:∀i,i<64->bs i=bs' i):∀n,z7q bs n=z7q bs' n
 |0=>rfl
 |n+1=>by
  have ih:=Zcq h n;show z7q bs n++[kPq bs (z7q bs n)]=z7q bs' n++[kPq bs' (z7q bs' n)];rw[ih,next_congr h]
theorem Z2q{bs bs':Nat->Nat}(h:∀i,i<64->bs i=bs' i)(s:S8):qYq bs s=qYq bs' s:=by
 unfold qYq;rw[Zcq h]
theorem atL_app{a b:List Nat}{i:Nat}(h:i<a.length):atL (a++b) i=atL a i:=by
 unfold atL;simp[List.getD,List.getElem?_append_left h]
theorem eats_app:∀(k:Nat) (s:S8) (b t:List Nat),b.length<=k->1<=t.length->qyq (b++t).length s (b++t)=qyq ((eats s b).2++t).length (eats s b).1 ((eats s b).2++t)
 |0,s,b,t,hb,ht=>by
  have e:eats s b=(s,b):=jxq _ _ _ Xd;rw[e]
 |k+1,s,b,t,hb,ht=>by
  by_cases h:b.length<64
  ·have e:eats s b=(s,b):=jxq _ _ _ h;rw[e]
  ·have h64:64<=b.length:=by omega
   have ed:(b++t).drop 64=b.drop 64++t:=List.drop_append_of_le_length h64;rw[ZMq h64,ukq (by rw[List.length_append];omega),ed,Z2q (λi hi=>atL_app Xd) s];exact eats_app k _ (b.drop 64) t (by rw[List.length_drop];omega) ht
theorem eats_mod:∀(k:Nat) (s:S8) (b:List Nat),b.length<=k->(eats s b).2.length=b.length%64
 |0,s,b,hb=>by
  have e:eats s b=(s,b):=jxq _ _ _ Xd;rw[e];show b.length=_;omega
 |k+1,s,b,hb=>by
  by_cases h:b.length<64
  ·have e:eats s b=(s,b):=jxq _ _ _ h;rw[e];show b.length=_;omega
  ·have h64:64<=b.length:=by omega
   rw[ZMq h64,eats_mod k _ _ (by rw[List.length_drop];omega),List.length_drop];omega
theorem be8_len8{n:Nat}(hn:n<2147483648):(beB 8 (8*n)).map UInt8.toNat=len8 n:=by
 have e:∀i,Nat.shiftRight (8*n%18446744073709551616) i%256=8*n/2^i%256:=λi=>by
  have h8:8*n%18446744073709551616=8*n:=Nat.mod_eq_of_lt Xd;rw[h8];show(8*n)>>>i%256=_;rw[Nat.shiftRight_eq_div_pow]
 have t:∀x:Nat,(UInt8.ofNat (x%256)).toNat=x%256:=λx=>by simp
 simp only[beB,len8,List.map_cons,List.map_nil,e,t]
theorem sha_one(l:List UInt8)(hl:l.length<2147483648):shaN [l.map UInt8.toNat]=digN (qyq ((padR l).map UInt8.toNat).length s0 ((padR l).map UInt8.toNat)):=by
 obtain⟨b,eb⟩:∃b,l.map UInt8.toNat=b:=⟨_,rfl⟩
 have el:b.length=l.length:=by rw[<-eb,List.length_map]
 have ht:ySq [b]=l.length:=by show b.length+0=_;omega
 have hm:=eats_mod b.length s0 b (Nat.le_refl _)
 have er:(padR l).map UInt8.toNat=b++([128]++List.replicate ((119-l.length%64)%64) 0++len8 l.length):=by
  unfold padR padJ;rw[List.map_append,List.map_append,List.map_append,be8_len8 hl,eb,List.append_assoc,List.append_assoc];simp[List.map_replicate]
 have ea:([b].foldl xyq (s0,[]))=eats s0 b:=rfl;rw[eb,er,eats_app b.length s0 b _ (Nat.le_refl _) Xh];have hp:=pad_eq 64 ((eats s0 b).2++[128]) Xd
 have hj:(120-((eats s0 b).2++[128]).length%64)%64=(119-l.length%64)%64:=by
  rw[List.length_append,hm,el];simp only[List.length_cons,List.length_nil];omega
 rw[hj] at hp
 have e2:padZ 64 ((eats s0 b).2++[128])++len8 l.length=(eats s0 b).2++([128]++List.replicate ((119-l.length%64)%64) 0++len8 l.length):=by
  rw[hp,List.append_assoc,List.append_assoc,List.append_assoc]
 have eS:shaN [b]=digN (qyq (padZ 64 (([b].foldl xyq (s0,[])).2++[128])++len8 (ySq [b])).length ([b].foldl xyq (s0,[])).1 (padZ 64 (([b].foldl xyq (s0,[])).2++[128])++len8 (ySq [b]))):=rfl;rw[eS,ea,ht,e2]
section
attribute [local irreducible] CoW OpW FlW Step Spec
variable {G:Nat->Option W}
noncomputable def sumH(s:S8):HpW:=[(2,388,.arr 64 1 (kW.map wd)),(1,326,.arr 8 1 s.l),(0,35,jaq)]
noncomputable def sumH2(v:S8)(ws:List Nat)(L:List W):HpW:=[(4,326,.arr 8 1 v.l),(3,388,.arr 64 1 (ws.map wd)),(2,388,.arr 64 1 (kW.map wd)),(1,326,.arr 8 1 L),(0,35,jaq)]
theorem s0_ok:s0.Ok:=⟨by decide,by decide,by decide,by decide,by decide,by decide,by decide,by decide⟩
theorem padR_len(l:List UInt8):(padR l).length%64=0/\(padR l).length<=l.length+72:=by
 unfold padR;rw[List.length_append,uGq,q5q];omega
theorem bsL_blk(M:List UInt8)(i:Nat):∀k,k<64->bsL ((M.drop (64*i)).take 64) k=atL ((M.map UInt8.toNat).drop (64*i)) k:=λk hk=>by
 unfold bsL atL;rw[List.map_take,List.map_drop,List.getD_eq_getElem?_getD,List.getD_eq_getElem?_getD,List.getElem?_take_of_lt hk]
set_option maxHeartbeats 1600000 in
theorem rsum_s(l:List UInt8)(f:Bool)(hl:l.length<2147483648):PS cfg G 333 [.fz (zaq l) 1 f] (dW (shaD [l])):=by
 have hsha:=sha_one l hl;obtain⟨hm,hle⟩:=padR_len l
 have e3:dW (shaD [l])= .arr 32 1 (bN (shaN [l.map UInt8.toNat])):=by
  show W.arr 32 1 (zaq _)=_;rw[<-bytes_of (shaN_lt _)];rfl
 rw[e3,hsha];have hpad:=padded_s (G:=G) l f hl;generalize padR l=M at*
 obtain⟨MN,eMN⟩:∃MN,M.map UInt8.toNat=MN:=⟨_,rfl⟩
 rw[eMN];have hMN:MN.length=M.length:=by rw[<-eMN,List.length_map]
 have eM:(zaq M).length=M.length:=zeq M;refine gI 15 O (λR k0=>gC 0 O (hpad) (gC 5 O (words_s) (zbq 11 O ?_)));refine yLq (α:=S8×Nat) (λp=>p.1.Ok/\64*p.2<=M.length/\qyq MN.length s0 MN=qyq (MN.drop (64*p.2)).length p.1 (MN.drop (64*p.2))) (λp=>[(6,.int .i64 ((64*p.2:Nat):Int))]) [(2,_),(3,_),(4,_),(5,_)] (λp=>sumH p.1) (λp=>M.length-64*p.2) ((s0,0)) ⟨rfl,rfl,rfl,rfl,trivial⟩ (⟨s0_ok,Nat.zero_le _,rfl⟩) ⟨rfl,trivial⟩ (rfl) (λp hI=>?_);obtain⟨s,i⟩:=p;obtain⟨hs,hi,heat⟩:=hI;simp only at hs hi heat⊢;refine zKq 5 O (gV (w':=.int .i64 (M.length:Int)) 0 O (by rw[<-eM];rfl) ?_);refine gS 3 O (λh1=>?_) (λh1=>?_)
 ·have h1:((64*i:Nat):Int)<(M.length:Int):=h1;have hi2:64*i+64<=M.length:=by omega
  have hblk:((M.drop (64*i)).take 64).length=64:=by rw[List.length_take,List.length_drop];omega
  have ey:((zaq M).drop (64*i)).take (64*i+64-64*i)=zaq ((M.drop (64*i)).take 64):=by
   rw[show 64*i+64-64*i=64 by omega];simp[zaq,List.map_take,List.map_drop]
  obtain⟨ws,ews⟩:∃ws,z7q (bsL ((M.drop (64*i)).take 64)) 64=ws:=⟨_,rfl⟩
  have hws:ws.length=64:=by rw[<-ews];exact xdq _ _
  have hsch:=λg=>sched_s (G:=G) ((M.drop (64*i)).take 64) g hblk
  rw[ews] at hsch;have hW:∀t,t<64->(ws.map wd)[0+t*1]? =some (wd (ws.getD t 0)):=λt ht=>by rw[Nat.zero_add,Nat.mul_one];exact vgq Xd
  have hK:∀t,t<64->(kW.map wd)[0+t*1]? =some (wd (kW.getD t 0)):=λt ht=>by rw[Nat.zero_add,Nat.mul_one];exact vgq (by rw[kW_len];exact ht)
  have hnew:qYq (bsL ((M.drop (64*i)).take 64)) s=qYq (atL (MN.drop (64*i))) s:=by rw[<-eMN];exact Z2q (bsL_blk M i) s
  have hadd:mix8 s (k3q ws s 64) 8=(qYq (atL (MN.drop (64*i))) s).l:=by rw[<-hnew,<-ews];rfl
  refine gA 9 O (64*i+64) (gP 0 O (cut_fz (ys:=zaq ((M.drop (64*i)).take 64)) (l:=64*i) (h:=64*i+64) O O O O O O O Xd Xd ey rfl) (Ygq O O O O O O (hsch _) Xh (show purL (ws.map wd)=true from z3q (λx=>rfl) ws) (zpq 18 O ?_)));refine yLq (α:=Nat) (λt=>t<=64) (λt=>[(9,.int .i64 (t:Int))]) [(2,_),(3,_),(4,_),(5,_),(6,_),(7,_),(8,_),(18,_),(19,_),(20,_),(21,_),(24,_),(25,_),(26,_),(27,_),(28,_),(29,_),(30,_)] (λt=>sumH2 (k3q ws s t) ws s.l) (λt=>64-t) (0) ⟨rfl,rfl,rfl,rfl,rfl,rfl,rfl,rfl,rfl,rfl,rfl,rfl,rfl,rfl,rfl,rfl,rfl,rfl,trivial⟩ (Nat.zero_le _) ⟨rfl,trivial⟩ (rfl) (λt hI=>?_);refine zKq 7 O ?_;refine gS 0 O (λh2=>?_) (λh2=>?_)
  ·have ht:t<64:=by omega
   obtain⟨v,ev⟩:∃v,k3q ws s t=v:=⟨_,rfl⟩
   have hv:v.Ok:=by rw[<-ev];exact rounds_ok hs ws t
   have hKt:=hK t ht;have hWt:=hW t ht;have hnx:k3q ws s (t+1)=roundN (kW.getD t 0) (ws.getD t 0) v:=by rw[<-ev];rfl
   rw[ev];generalize kW.getD t 0=kt at*
   generalize ws.getD t 0=wt at*
   refine gP 7 O (yBq (i:=t) O O O O O O Xd) (gM 0 O (zXq O O O (yrq hKt rfl)) (gP 1 O (yBq (i:=t) O O O O O O Xd) (gM 0 O (zXq O O O (yrq hWt rfl)) (QCq O O O O O O (rround_s v hv kt wt) O O Xt (ykq 6 O (gA 0 O (t+1) (zbq 2 O ?_)))))));skip
   exact y1q (t+1) ht Xd ⟨rfl,trivial⟩ Yg (by rw[hnx];rfl)
  ·have ht:t=64:=by omega
   subst ht;obtain⟨v,ev⟩:∃v,k3q ws s 64=v:=⟨_,rfl⟩
   rw[ev] at hadd⊢;refine zbq 2 O (qbq Xi (z0q 8 O ?_));refine yLq (α:=Nat) (λj=>j<=8) (λj=>[(10,.int .i64 (j:Int))]) [(2,_),(3,_),(4,_),(5,_),(6,_),(7,_),(8,_),(9,_),(18,_),(19,_),(20,_),(21,_),(24,_),(25,_),(26,_),(27,_),(28,_),(29,_),(30,_),(31,_),(32,_)] (λj=>sumH2 v ws (mix8 s v j)) (λj=>8-j) (0) ⟨rfl,rfl,rfl,rfl,rfl,rfl,rfl,rfl,rfl,rfl,rfl,rfl,rfl,rfl,rfl,rfl,rfl,rfl,rfl,rfl,rfl,trivial⟩ (Nat.zero_le _) ⟨rfl,trivial⟩ (rfl) (λj hI=>?_);refine zKq 7 O ?_;refine gS 0 O (λh3=>?_) (λh3=>?_)
   ·have hj:j<8:=by omega
    have hq:j=0\/j=1\/j=2\/j=3\/j=4\/j=5\/j=6\/j=7:=by omega
    have g1:(mix8 s v j)[0+j*1]? =some (wd (s.get j)):=by rcases hq with rfl|rfl|rfl|rfl|rfl|rfl|rfl|rfl<;>rfl
    have g2:v.l[0+j*1]? =some (wd (v.get j)):=S8_at v hj;have g3:(mix8 s v j).set (0+j*1) (wd (addN (s.get j) (v.get j)))=mix8 s v (j+1):=by rcases hq with rfl|rfl|rfl|rfl|rfl|rfl|rfl|rfl<;>rfl
    generalize s.get j=x at*
    generalize v.get j=y at*
    refine gP 6 O (yBq (i:=j) O O O O O O Xd) (gM 0 O (zXq O O O (yrq g1 rfl)) (gP 1 O (yBq (i:=j) O O O O O O Xd) (gM 0 O (zXq O O O (yrq g2 rfl)) (gV (w':=wd (addN x y)) 0 O O (gP 0 O (yBq (i:=j) O O O O O O Xd) (gM 0 O (qpq O O O O O (y2q g1 O O) rfl) (gA 5 O (j+1) (zbq 2 O ?_))))))));skip
    exact y1q (j+1) hj Xd ⟨rfl,trivial⟩ Yg (congrArg (λL=>sumH2 v ws L) g3)
   ·have hj:j=8:=by omega
    subst hj;rw[hadd];refine zbq 2 O (qbq Xi (z0q 5 O (gA 0 O (64*i+64) (zbq 2 O ?_))));skip
    exact q_againH (qYq (atL (MN.drop (64*i))) s,i+1) ⟨block_ok _ _,by simp only;omega,by rw[heat,ukq Xn,List.drop_drop];rfl⟩ Yd (Nat.zero_le _) ⟨rfl,trivial⟩ Yg Xg Xg Xd Xj (by show([2,1,0]:List Nat).Nodup;decide)
 ·have h1:¬((64*i:Nat):Int)<(M.length:Int):=h1;have hend:qyq MN.length s0 MN=s:=by rw[heat,List.drop_of_length_le Xd];rfl
  rw[hend];refine zbq 2 O (qbq Xi (z0q 14 O ?_));refine yLq (α:=Nat) (λa=>a<=8) (λa=>[(12,.int .i64 (a:Int))]) [(2,_),(3,_),(11,_)] (λa=>(3,35,.arr 32 1 (bN (dI s (4*a))))::sumH s) (λa=>8-a) (0) ⟨rfl,rfl,rfl,trivial⟩ (Nat.zero_le _) ⟨rfl,trivial⟩ (rfl) (λa hI=>?_);refine zKq 7 O ?_;refine gS 0 O (λh2=>?_) (λh2=>?_)
  ·have ha:a<8:=by omega
   refine zbq 10 O ?_;refine yLq (α:=Nat) (λb=>b<=4) (λb=>[(13,.int .i64 (b:Int))]) [(2,_),(3,_),(11,_),(12,_),(55,_),(56,_)] (λb=>(3,35,.arr 32 1 (bN (dI s (4*a+b))))::sumH s) (λb=>4-b) (0) ⟨rfl,rfl,rfl,rfl,rfl,rfl,trivial⟩ (Nat.zero_le _) ⟨rfl,trivial⟩ (rfl) (λb hI=>?_);refine zKq 7 O ?_;refine gS 0 O (λh3=>?_) (λh3=>?_)
   ·have hb:b<4:=by omega
    have hdv:(4*a+b)/4=a:=by omega
    have hmd:(4*a+b)%4=b:=by omega
    have hset:=dI_set s (i:=4*a+b) Xd;rw[hdv,hmd] at hset;refine gA 6 O (4*a) (gA 1 O (4*a+b) (gP 1 O (yBq (i:=a) O O O O O O Xd) (gM 0 O (zXq O O O (yrq (S8_at s ha) rfl)) (gA 1 O (8*b) (gA 0 O (24-8*b) (gA 0 O (24-8*b) (gV (w':=wd (Nat.shiftRight (s.get a) (min (24-8*b) 32))) 0 O O (gV (w':=.int .u8 (.ofNat (Nat.shiftRight (s.get a) (min (24-8*b) 32)%256))) 0 O O (gP 0 O (yBq (i:=4*a+b) O O O O O O Xd) (gM 0 O (qpq O O O O O (y2q (dI_at s Xd) O O) rfl) (gA 5 O (b+1) (zbq 2 O ?_))))))))))));skip
    exact y1q (b+1) hb Xd ⟨rfl,trivial⟩ Yg (congrArg (λL=>(3,35,W.arr 32 1 L)::sumH s) hset)
   ·have hb:b=4:=by omega
    subst hb;refine zbq 2 O (qbq Xi (z0q 5 O (gA 0 O (a+1) (zbq 2 O ?_))));skip
    exact y1q (a+1) ha Xd ⟨rfl,trivial⟩ Yg rfl
  ·have ha:a=8:=by omega
   subst ha;refine zbq 2 O (qbq Xi (z0q 9 O ?_));have ed:dI s 32=digN s:=by simp[dI,List.take_of_length_le,uTq]
   exact gQ 0 O (by rw[<-ed])
theorem rtbytes_s(kind:UInt8)(ps:List (List UInt8))(f:Bool)(hn:ps.length<1000000)(hb:∀p∈ps,p.length<1000000):PS cfg G 334 [.int .u8 (.ofNat kind.toNat),.fz (ps.map bW) 1 f] (bW (tagB kind ps)):=by
 have e:(ps.map bW).length=ps.length:=List.length_map _;have htm:∀n:Nat,n<4294967296->((n:Int)).tmod 4294967296=(n:Int):=λn hn=>by rw[Int.tmod_eq_emod_of_nonneg Xd];omega
 refine gIv 19 O (λR k0=>?_);refine co_loopG1 (α:=Nat) (λi=>i<=ps.length) 5 (λi=>zaq (kind::(ps.take i).flatMap kMq)) 5 1 (λi=>[(6,.int .i64 (i:Int))]) [(1,_),(4,_)] ([]) 0 0 (λi=>ps.length-i) (0) ⟨rfl,rfl,trivial⟩ (Nat.zero_le _) ⟨rfl,trivial⟩ Xd Xd Ym Yy rfl Yy Xg Xg rfl Xk Xj Yf (λi hI=>?_);refine zKq 5 O (gV (w':=.int .i64 (ps.length:Int)) 0 O Xu ?_);refine gS 3 O (λh1=>?_) (λh1=>?_)
 ·have hi:i<ps.length:=by omega
  obtain⟨x,hx⟩:∃x,ps[i]? =some x:=⟨_,List.getElem?_eq_getElem hi⟩
  have hxl:=hb x (List.mem_of_getElem? hx);have hfl:((ps.take i).flatMap kMq).length<=i*1000004:=QAq i hb;have hL:(zaq (kind::(ps.take i).flatMap kMq)).length<=1+i*1000004:=by rw[zeq,List.length_cons];omega
  have hN:(zaq (beB 4 x.length)).length=4:=by rw[zeq,q5q]
  have hnx:zaq (kind::(ps.take (i+1)).flatMap kMq)=(zaq (kind::(ps.take i).flatMap kMq)++zaq (beB 4 x.length))++zaq x:=by
   rw[List.take_add_one,hx,<-yYq,<-yYq];congr 1
   simp[kMq,Nat.mod_eq_of_lt (show x.length<4294967296 by omega)]
  skip
  cases x with
  |nil=>
   refine ycq 8 O (gP 0 O (zqq (i:=i) O O O O O O O (ziq bW hx)) (gV (w':=.int .i64 (([]:List UInt8).length:Int)) 1 O (by show W.int .i64 ((zaq (([]:List UInt8))).length:Int)=_;rw[zeq]) (gV (w':=.int .u64 (([]:List UInt8).length:Int)) 1 O O ?_)))
   (refine zLq rfl (kyq O O O O O O (jLq ([]:List UInt8).length 4 Xl Xd) ?_);rintro w hp1 nw1 ⟨rfl,rfl,rfl⟩)
   exact zpq 11 O (gM 0 O (z6q O O (jjq [_] (k:=ti5) (news:=zaq (beB 4 ([]:List UInt8).length)) O O O O O (yzq O O O (zkq Xl hN.symm rfl)) Yr Qf (by rw[hN];omega) rfl (by simp[numC]))) (gP 7 O (zqq (i:=i) O O O O O O O (ziq bW hx)) (gM 1 O (z6q O O (joq (k:=ti5) O O O O O)) (gA 6 O (i+1) (zbq 2 O (kJq 2 (i+1) (hi) Xd (Nat.zero_le _) (by rw[hnx];exact List.append_nil _) Xy Xd Ym rfl Yc ⟨rfl,trivial⟩ ⟨rfl,rfl,trivial⟩ Xg Xg rfl Xk Xj Yf))))))
  |cons c x=>
   refine ycq 8 O (gP 0 O (zqq (i:=i) O O O O O O O (ziq bW hx)) (gV (w':=.int .i64 ((c::x).length:Int)) 1 O (by show W.int .i64 ((zaq ((c::x))).length:Int)=_;rw[zeq]) (gA 0 O ((c::x).length) (gV (w':=.int .u64 ((c::x).length:Int)) 0 O (congrArg (W.int .u64) (htm _ Xd)) ?_))))
   (refine zLq rfl (kyq O O O O O O (jLq (c::x).length 4 Xd Xd) ?_);rintro w hp1 nw1 ⟨rfl,rfl,rfl⟩)
   exact zpq 11 O (gM 0 O (z6q O O (jjq [_] (k:=ti5) (news:=zaq (beB 4 (c::x).length)) O O O O O (yzq O O O (zkq Xl hN.symm rfl)) Yr Qf (by rw[hN];omega) rfl (by simp[numC]))) (gP 7 O (zqq (i:=i) O O O O O O O (ziq bW hx)) (gM 1 O (z6q O O (yZq (k:=ti5) (len:=(zaq (kind::(ps.take i).flatMap kMq)++zaq (beB 4 (c::x).length)).length) (news:=zaq (c::x)) (olds:=zaq (kind::(ps.take i).flatMap kMq)++zaq (beB 4 (c::x).length)) O O O O O Yy (by rw[List.length_append,hN,zeq (c::x)];show(_+_)*1<=_;omega) (by rw[List.length_append,hN,zeq (c::x)];omega) rfl Ys rfl (zkq Xl O O))) (gA 6 O (i+1) (zbq 2 O (kJq 3 (i+1) (hi) Xd (Nat.zero_le _) (hnx) Xy Xd Ym rfl Yc ⟨rfl,trivial⟩ ⟨rfl,rfl,trivial⟩ Xg Xg rfl Xk Xj Yf))))))
 ·have hi:i=ps.length:=by omega
  subst hi;refine zbq 2 O (qbq Xi (z0q 9 O (jZq Xo O ?_)));rw[List.take_length];exact utq (H0:=[]) Xl Xh Xh
theorem Y8q(kind:UInt8)(ps:List (List UInt8))(f:Bool)(hn:ps.length<1000)(hb:∀p∈ps,p.length<1000000):PS cfg G 306 [.int .u8 (.ofNat kind.toNat),.fz (ps.map bW) 1 f] (dW (tagD kind ps)):=by
 have hl:=tag_le kind ps hb;exact gI 9 O (λR k0=>gC 0 O (rtbytes_s kind ps f Xd hb) (gC 0 O (rsum_s (tagB kind ps) false Xd) (gQa 4 O)))
theorem rtone_s(kind:UInt8)(a:List UInt8)(hb:a.length<1000000):PS cfg G 254 [.int .u8 (.ofNat kind.toNat),bW a] (dW (tagD kind [a])):=by
 refine gI 10 O (λR k0=>?_);refine op_lk O O O O O (by(repeat (first|exact .nil|refine .cons ?_ ?_|(refine .sl O ?_ rfl Xi;first|rfl|(focus (simp;done)))|(refine y9q O ?_ rfl;first|rfl|(focus (simp;done)))|(refine .pur ?_;first|rfl|(focus (simp;done)))))) (Y8q kind [a] false Xh Xn) Xk Xk ?_;exact zpq 4 O (gQa 0 O)
theorem rtnone_s:PS cfg G 291 [] (dW (tagD 0 [])):=by
 exact gI 7 O (λR k0=>op_lk O O O O O (.cons (.pur rfl) (.cons .nilfz .nil)) (Y8q 0 [] false Xh Xh) Xk Xk (zpq 4 O (gQa 0 O)))
theorem rtwo_s(kind:UInt8)(a b:List UInt8)(f g:Bool)(ha:a.length<1000000)(hb:b.length<1000000):PS cfg G 303 [.int .u8 (.ofNat kind.toNat),.fz (zaq a) 1 f,.fz (zaq b) 1 g] (dW (tagD kind [a,b])):=by
 exact gI 11 O (λR k0=>op_lk O O O O O (.cons (.pur rfl) (.cons (.sl2 (full:=false) rfl (.arr (.cons (.fzw Xh) (.cons (.fzw Xh) .nil))) rfl Xi) .nil)) (Y8q kind [a,b] false Xh (by simp[ha,hb])) Xk Xk (zpq 4 O (gQa 0 O)))
noncomputable def ofH(A B:List Pr):HpW:=([(0,35,jaq)]++gH 1 149 33 (A.map pW))++gH 2 149 33 (B.map pW)
theorem ofH_l(A:List Pr):ofH A []=[(0,35,jaq)]++gH 1 149 33 (A.map pW):=List.append_nil _
theorem rof_s:∀(t:T) (d:Nat) (b:Dig) (f:Bool),Zr d b->t.ok d b=true->vIq t->t.all.length<=1000000->PS cfg G 250 [.fz (t.all.map pW) 33 f,.int .i64 (d:Int)] (dW (sumD t)):=by
 intro t;induction t with
 |nil=>
  intro d b f hz ok hs hl;refine gI 9 O (λR k0=>?_);refine gL 0 O ?_;refine gC 6 O (rtnone_s) ?_;exact gQa 5 O
 |leaf k v=>
  intro d b f hz ok hs hl;have hv:v.length<1000000:=hs (k,v) (by simp[T.all]);refine gI 9 O (λR k0=>?_);refine gL 0 O ?_;refine gL 10 O ?_;refine gX 7 O ?_;refine gX 3 O ?_;refine zbq 2 O ?_;refine QCq O O O O O (by show [_,W.fz (((zaq k.1).drop (0/1)).take 32) 1 true,_]=[_,W.fz (zaq k.1) 1 true,_];rw[show 0/1=0 from rfl,List.drop_zero,List.take_of_length_le (by rw[zeq,k.2];omega)];rfl) (rtwo_s 1 k.1 v true false (by simp[k.2]) hv) Xh Xh Xt ?_;refine ykq 5 O ?_;exact gQa 0 O
 |fork tl tr ihL ihR=>
  intro d b f hz ok hs hl;obtain⟨hd,okL,okR,two⟩:=ok_fork.1 ok;obtain⟨b0,b1⟩:=Qkq hz ok;have sL:vIq tl:=λp hp=>hs p Qi
  have sR:vIq tr:=λp hp=>hs p Qi
  have hall:(T.fork tl tr).all=tl.all++tr.all:=by simp[T.all]
  have cL:=ihL (d+1) b false (qKq hz) okL sL (by rw[hall,List.length_append] at hl;omega);have cR:=ihR (d+1) (qaq b d) false (qJq hz hd) okR sR (by rw[hall,List.length_append] at hl;omega);have hn2:2<=tl.all.length+tr.all.length:=u6q okL okR two;rw[hall] at hl⊢;rw[List.length_append] at hl;generalize tl.all=L at*
  generalize tr.all=Q at*
  have e:((L++Q).map pW).length=L.length+Q.length:=by rw[List.length_map,List.length_append]
  have hat:∀i,i<L.length+Q.length->∃x,(L++Q)[i]? =some x:=λi hi=>⟨_,List.getElem?_eq_getElem (by rw[List.length_append];exact hi)⟩
  refine gI 9 O (λR k0=>?_);refine gZ 0 O e ?_;refine gF 0 O (eqI_not.2 Xd) ?_;refine gZ 9 O e ?_;refine gF 0 O (eqI_not.2 Xd) ?_;refine zbq 18 O ?_;have z0:Q.take (0-L.length)=[]:=by rw[Nat.zero_sub];rfl
  refine qRq (α:=Nat) (λi=>i<=L.length+Q.length) (λi=>[(5,gW 1 33 ((L.take i).map pW)),(7,.int .i64 (i:Int)),(6,gW 2 33 ((Q.take (i-L.length)).map pW)),(0,.fz ((L++Q).map pW) 33 f),(1,.int .i64 (d:Int)),(4,.ptr 0 0)]) (λi=>ofH (L.take i) (Q.take (i-L.length))) (λ_=>3) (λ_=>R) (λi=>L.length+Q.length-i) 0 (Nat.zero_le _) ((xsq (fr2:=[(5,.nils),(7,.int .i64 0),(6,.nils),(0,.fz ((L++Q).map pW) 33 f),(1,.int .i64 (d:Int)),(4,.ptr 0 0)]) ⟨rfl,rfl,rfl,rfl,rfl,rfl,trivial⟩).trans ((xsq (fr2:=[(5,.nils),(7,.int .i64 0),(6,.nils),(0,.fz ((L++Q).map pW) 33 f),(1,.int .i64 (d:Int)),(4,.ptr 0 0)]) ⟨rfl,rfl,rfl,rfl,rfl,rfl,trivial⟩).trans (yXq ⟨rfl,rfl,by rw[z0];rfl,rfl,rfl,rfl,trivial⟩ (by rw[z0];rfl) rfl))) (λi hI=>?_);skip
  have hI:i<=L.length+Q.length:=hI;refine zKq 5 O ?_;refine gZ 0 O e ?_;refine gS 3 O (λh1=>?_) (λh1=>?_)
  ·have hi:i<L.length+Q.length:=by omega
   obtain⟨x,hx⟩:=hat i hi;skip
   by_cases hc:i<L.length
   ·have hxl:L[i]? =some x:=by rw[List.getElem?_append_left hc] at hx;exact hx
    have hbit:bitN x.1 d=0:=b0 x (List.mem_of_getElem? hxl);have zq:Q.take (i-L.length)=[]:=by rw[show i-L.length=0 by omega];rfl
    have zq':Q.take (i+1-L.length)=[]:=by rw[show i+1-L.length=0 by omega];rfl
    have hL2:(L.take (i+1)).map pW=(L.take i).map pW++[pW x]:=by rw[List.take_add_one,hxl,List.map_append];rfl
    have hlt:((L.take i).map pW).length<=1000000:=by rw[List.length_map,List.length_take];omega
    rw[zq,ofH_l];refine gP 8 O (zqq (i:=i) O O O O O O O (ziq pW hx)) ?_;refine gC 3 O (Qaq x.1 d hd) ?_;refine gT 0 O (eqI_iff.2 (by rw[hbit];rfl)) ?_;refine gP 7 O (zqq (i:=i) O O O O O O O (ziq pW hx)) ?_;refine gM 2 O (z6q O O (jjq [_,_] (k:=ti149) (news:=[pW x]) O O O O O (yzq O O O O) Xh (by show(((L.take i).map pW).length+1)*56<=_;omega) (by show((L.take i).map pW).length+1<=_;omega) rfl Xh)) ?_;refine gA 6 O (i+1) ?_;refine zbq 2 O ?_;skip
    refine y7q (i+1) hi Xd ?_;simp only[zq',ofH_l,hL2];exact(qhq (b:=1) (H0:=[(0,35,jaq)]) (l2:=(L.take i).map pW++[pW x]) (n:=((L.take i).map pW++[pW x]).length) (fr2:=[(7,.int .i64 ((i+1:Nat):Int)),(6,.nils),(0,.fz ((L++Q).map pW) 33 f),(1,.int .i64 (d:Int)),(4,.ptr 0 0)]) 4 5 Xd Xd Yk Xh O O ⟨rfl,rfl,rfl,rfl,rfl,trivial⟩ ⟨rfl,rfl,zdq (show purW (.fz ((L++Q).map pW) 33 f)=true from qrq _),rfl,rfl,trivial⟩ rfl Xh ⟨⟨by omega,rfl,rfl⟩,trivial⟩ Xh).trans (xsq ⟨rfl,rfl,rfl,rfl,rfl,rfl,trivial⟩)
   ·have hxq:Q[i-L.length]? =some x:=by rw[List.getElem?_append_right Xd] at hx;exact hx
    have hbit:bitN x.1 d=1:=b1 x (List.mem_of_getElem? hxq);have zl:L.take i=L:=List.take_of_length_le Xd;have zl':L.take (i+1)=L:=List.take_of_length_le Xd;have hQ2:(Q.take (i+1-L.length)).map pW=(Q.take (i-L.length)).map pW++[pW x]:=by rw[show i+1-L.length=(i-L.length)+1 by omega,List.take_add_one,hxq,List.map_append];rfl
    have hlt:((Q.take (i-L.length)).map pW).length<=1000000:=by rw[List.length_map,List.length_take];omega
    have hnm:∀p∈[((0:Nat),35,jaq)]++gH 1 149 33 (L.map pW),p.1<2:=λp hp=>by
     rcases List.mem_append.1 hp with hp|hp
     ·simp only[List.mem_cons,List.not_mem_nil,or_false] at hp;rw[hp];show 0<2;omega
     ·rw[kbq p hp];omega
    rw[zl];refine gP 8 O (zqq (i:=i) O O O O O O O (ziq pW hx)) ?_;refine gC 3 O (Qaq x.1 d hd) ?_;refine gF 0 O (eqI_not.2 (by rw[hbit];decide)) ?_;refine gP 7 O (zqq (i:=i) O O O O O O O (ziq pW hx)) ?_;refine gM 2 O (z6q O O (jjq ((3,_)::([(0,_)]++gH 1 149 33 (L.map pW))) (k:=ti149) (news:=[pW x]) O O O O O (yzq O O O O) Xh (by show(((Q.take (i-L.length)).map pW).length+1)*56<=_;omega) (by show((Q.take (i-L.length)).map pW).length+1<=_;omega) rfl (λp hp=>by rcases List.mem_cons.1 hp with q|q;(rw[q];show¬3=2;omega);have:=hnm p q;omega))) ?_;refine gA 6 O (i+1) ?_;refine zbq 2 O ?_;skip
    refine y7q (i+1) hi Xd ?_;simp only[zl',hQ2];exact(qhq (b:=2) (H0:=[(0,35,jaq)]++gH 1 149 33 (L.map pW)) (l2:=(Q.take (i-L.length)).map pW++[pW x]) (n:=((Q.take (i-L.length)).map pW++[pW x]).length) (fr2:=[(5,gW 1 33 (L.map pW)),(7,.int .i64 ((i+1:Nat):Int)),(0,.fz ((L++Q).map pW) 33 f),(1,.int .i64 (d:Int)),(4,.ptr 0 0)]) 4 6 Xd Xd Yk Xh O O ⟨rfl,rfl,rfl,rfl,rfl,trivial⟩ ⟨by cases L.map pW<;>rfl,rfl,zdq (show purW (.fz ((L++Q).map pW) 33 f)=true from qrq _),rfl,rfl,trivial⟩ rfl Xh (xEq ⟨⟨by omega,rfl,rfl⟩,trivial⟩ (subH_g Xd Xh (λx r h=>by rw[h];rfl))) (by cases L.map pW<;>simp[gH])).trans (yXq ⟨rfl,rfl,rfl,rfl,rfl,rfl,trivial⟩ (by unfold ofH;rw[hQ2]) rfl)
  ·have hi:i=L.length+Q.length:=by omega
   have zl:L.take i=L:=List.take_of_length_le Xd;have zq:Q.take (i-L.length)=Q:=List.take_of_length_le Xd;rw[zl,zq];refine zbq 2 O ?_;refine qbq Xi ?_;refine z0q 6 O ?_;refine gA 0 O (d+1) ?_;refine op_lk O O O O O (.cons (view_g2 (H0:=[(0,35,jaq)]) Xl Xh Xh) (.cons (.pur rfl) .nil)) cL Xh (flat_dW _) ?_;refine zpq 2 O ?_;refine gA 0 O (d+1) ?_;refine op_lk O O O O O (.cons (utq (H0:=[(0,35,jaq)]++gH 1 149 33 (L.map pW)) Xl Xh (λp hp=>by rcases List.mem_append.1 hp with q|q;(simp only[List.mem_cons,List.not_mem_nil,or_false] at q;rw[q];show¬0=2;omega);(rw[kbq p q];omega))) (.cons (.pur rfl) .nil)) cR Xh (flat_dW _) ?_;refine zpq 10 O ?_;refine fl_lk O O O O O (.cons (.pur rfl) (.cons (.sl (full:=false) (xs:=zaq (sumD tl).1) rfl Xh (zkq Xl (by simp[zeq,(sumD tl).2]) rfl) Xi) (.cons (.sl (full:=false) (xs:=zaq (sumD tr).1) rfl Xh (zkq Xl (by simp[zeq,(sumD tr).2]) rfl) Xi) .nil))) (rtwo_s 2 (sumD tl).1 (sumD tr).1 false false (by simp[(sumD tl).2]) (by simp[(sumD tr).2])) Xk Xk Xt ?_;refine ykq 4 O ?_;exact gQa 0 O
def cntT:T->Nat
 |.nil=>0
 |.leaf _ _=>1
 |.fork l r=>cntT l+cntT r+1
def th:Nat->Nat
 |0=>0
 |_+1=>1
noncomputable def tgW(b:Nat)(ns:List Node)(r:Int):W:=.agg 2 [gW b 36 (ns.map nW),.int .i64 r]
def OfQ(ns:List Node)(r:Int)(t:T):W->HpW->Nat->Prop:=λw hp nw=>∃ms n,ms.length=cntT t/\Rep (ns++ms) n t/\w= .tup [tgW (th (cntT t)) (ns++ms) r,.int .i64 ((n:Nat):Int)]/\hp=[(2,24,tgW (th (cntT t)) (ns++ms) r)]++gH (th (cntT t)) 230 36 ((ns++ms).map nW)/\nw=3
def OfS(G:Nat->Option W)(t:T)(d:Nat):Prop:=∀(f:Bool) (ns:List Node) (r:Int),ns.length+cntT t<=1000000->qoq cfg G 185 1 [tgW 0 ns r,.fz (t.all.map pW) 33 f,.int .i64 (d:Int)] (gH 0 230 36 (ns.map nW)) (OfQ ns r t)
section
variable {ops:Array Oper} {l:List Oper} {K:FrW->HpW->Nat->Res->Prop} {m nw:Nat} {fr:FrW} {hp:HpW} {R:Res} {o:Oper} {x:Operand} {xs:Array Operand} {ats:Array TypeId} {t:T} {d:Nat} {f:Bool} {ns:List Node} {r:Int}
theorem op_of(k:Nat)(P:HpW)(hg:yUq ops fr o=some true)(ho:o.op= .call ⟨.value x,xs,ats⟩)(hx:evW cfg G fr x=some (.fn 185 [] []))(he:cfg.ext 185=none)(hxs:evLW cfg G fr xs.toList=some [tgW k ns r,.fz (t.all.map pW) 33 f,.int .i64 (d:Int)])(hhp:hp=P++gH k 230 36 (ns.map nW))(hP:∀p∈P,p.1≠k/\p.1<nw)(nd:(P.map (·.1)).Nodup)(hk:k<nw)(sp:OfS G t d)(hl:ns.length+cntT t<=1000000)
  (h:∀(ms:List Node) (n k':Nat),ms.length=cntT t->Rep (ns++ms) n t->(k'=k\/k'=nw) ->OpW cfg G m ops l (putW fr o.dst (.tup [tgW k' (ns++ms) r,.int .i64 ((n:Nat):Int)])) (P++gH k' 230 36 ((ns++ms).map nW)) (nw+2) R K):OpW cfg G m ops (o::l) fr hp nw R K:=by
 have pn:purL (ns.map nW)=true:=z3q xRq _;have pp:purL (t.all.map pW)=true:=qrq _;refine zLq hg (jcq (ext:=[k]) (ws:=[tgW 0 ns r,.fz (t.all.map pW) 33 f,.int .i64 (d:Int)]) (hp0:=gH 0 230 36 (ns.map nW)) ho hx he hxs ?_ (sp f ns r hl) Xh Qk ?_ ?_ ?_ ?_)
 ·show [tgW k ns r,.fz (t.all.map pW) 33 f,.int .i64 (d:Int)]=[renW _ (tgW 0 ns r),renW _ (.fz (t.all.map pW) 33 f),.int .i64 (d:Int)];rw[ztq (show purW (.fz (t.all.map pW) 33 f)=true from pp)];unfold tgW;simp only[renW,yNq,ren_g];rfl
 ·cases ns.map nW with
  |nil=>exact List.nodup_nil
  |cons y q=>simp[gH]
 ·intro i ty w hi;cases e:ns.map nW with
  |nil=>rw[e] at hi;simp[gH,hget] at hi
  |cons y q=>
   rw[e] at hi pn hhp;have hpa:purW (.arr ((y::q).length*36) 36 (y::q))=true:=pn;simp only[gH] at hi;rw[zmq] at hi;split at hi
   ·rename_i e0;subst e0;cases hi;refine⟨by simp,zdq hpa,k,rfl,?_⟩;rw[hhp,ztq hpa];exact q8q λp hp=>(hP p hp).1
   ·simp[hget] at hi
 ·show(refB 1 (tgW 0 ns r)&&(refB 1 (.fz (t.all.map pW) 33 f)&&(refB 1 (.int .i64 (d:Int))&&true)))=true;rw[zdq (m:=1) (show purW (.fz (t.all.map pW) 33 f)=true from pp)];unfold tgW;simp[refB,refL,ref_g]
 ·rintro w hp1 nw1 ⟨ms,n,h1,h2,rfl,rfl,rfl⟩;have pm:purL ((ns++ms).map nW)=true:=z3q xRq _
  obtain⟨k',hk',ek⟩:∃k',(k'=k\/k'=nw)/\numC [k] nw (th (cntT t))=k':=by
   cases cntT t with
   |zero=>exact⟨k,.inl rfl,rfl⟩
   |succ c=>exact⟨nw,.inr rfl,rfl⟩
  have h:=h ms n k' h1 h2 hk'
  have e1:renW (numC [k] nw) (.tup [tgW (th (cntT t)) (ns++ms) r,.int .i64 ((n:Nat):Int)])= .tup [tgW k' (ns++ms) r,.int .i64 ((n:Nat):Int)]:=by
   unfold tgW;simp only[renW,yNq,ren_g,ek]
  have e2:renH (numC [k] nw) ([(2,24,tgW (th (cntT t)) (ns++ms) r)]++gH (th (cntT t)) 230 36 ((ns++ms).map nW))=(nw+1,24,tgW k' (ns++ms) r)::gH k' 230 36 ((ns++ms).map nW):=by
   rw[List.cons_append,List.nil_append];show(numC [k] nw 2,24,renW (numC [k] nw) (tgW (th (cntT t)) (ns++ms) r))::renH (numC [k] nw) (gH (th (cntT t)) 230 36 ((ns++ms).map nW))=_;rw[renH_g _ _ _ _ pm,ek];unfold tgW;simp only[renW,yNq,ren_g,ek];rfl
  rw[e1,e2,show([k]:List Nat).length=1 from rfl,show nw+(3-1)=nw+2 from rfl];show OpW cfg G m ops l _ (((nw+1,24,tgW k' (ns++ms) r)::gH k' 230 36 ((ns++ms).map nW))++hdel hp k) (nw+2) R K;rw[hhp,hdel_g λp hp=>(hP p hp).1];have hPk:∀p∈P,p.1≠k':=λp hp=>by have:=hP p hp;rcases hk' with rfl|rfl<;>omega
  refine uIq (λ_=>QHq (hp2:=P++gH k' 230 36 ((ns++ms).map nW)) (λi y hy=>?_) (juq hPk nd)) h
  have hi:i≠nw+1:=by
   rintro rfl;rw[jfq λp hp=>?_] at hy
   ·cases hy
   ·rcases List.mem_append.1 hp with q|q
    ·have:=(hP p q).2;omega
    ·rw[kbq p q];rcases hk' with rfl|rfl<;>omega
  rw[List.cons_append,zmq,if_neg (Ne.symm hi),uNq];rw[uNq] at hy;cases hq:hget P i with
  |none=>
   rw[hq] at hy;have hy:hget (gH k' 230 36 ((ns++ms).map nW)) i=some y:=hy;rw[hy];rfl
  |some z=>
   rw[hq] at hy;have hy:some z=some y:=hy
   have hik:i≠k':=by
    rintro rfl;rw[jfq hPk] at hq;cases hq
   rw[jfq λp hp=>by rw[kbq p hp];exact Ne.symm hik];exact hy
end
def lfN(k:Dig)(v:List UInt8):Node:=⟨true,k,v,0,0⟩
noncomputable def zT:W:=.agg 2 [.nils,.int .i64 0]
noncomputable def ofP(k:Nat)(ns:List Node)(r:Int):HpW:=[(2,24,zT),(1,24,tgW k ns r)]
noncomputable def ofG(ns:List Node)(r:Int):HpW:=ofP 0 ns r++gH 0 230 36 (ns.map nW)
noncomputable def ofH2(ns:List Node)(r:Int)(A B:List Pr):HpW:=(ofG ns r++gH 3 149 33 (A.map pW))++gH 4 149 33 (B.map pW)
theorem ofH2_l(ns:List Node)(r:Int)(A:List Pr):ofH2 ns r A []=ofG ns r++gH 3 149 33 (A.map pW):=List.append_nil _
theorem jeq{ns:List Node}{r:Int}:∀p∈ofG ns r,p.1<3:=λp hp=>by
 rcases List.mem_append.1 hp with q|q
 ·simp only[ofP,List.mem_cons,List.not_mem_nil,or_false] at q;rcases q with q|q<;>rw[q]<;>first|(show 2<3;omega)|(show 1<3;omega)
 ·rw[kbq p q];omega
theorem ofG_g{ns:List Node}{r:Int}{x:W}{q:List W}(h:ns.map nW=x::q):hget (ofG ns r) 0=some (230,.arr ((x::q).length*36) 36 (x::q)):=by
 unfold ofG;rw[h];rfl
theorem ofG_nd(ns:List Node)(r:Int):((ofG ns r).map (·.1)).Nodup:=juq (by simp[ofP]) (by simp[ofP])
theorem cnt_le:∀{t:T} {d:Nat} {b:Dig},t.ok d b=true->d<=256->cntT t<=t.all.length*(257-d)
 |.nil,d,b,_,_=>Nat.zero_le _
 |.leaf k v,d,b,_,hd=>by simp only[cntT,T.all,List.length_cons,List.length_nil];omega
 |.fork l r,d,b,h,hd=>by
  obtain⟨h0,h1,h2,h3⟩:=ok_fork.1 h;have l1:=cnt_le h1 Xd;have l2:=cnt_le h2 Xd;have l3:=u6q h1 h2 h3;have e:(T.fork l r).all.length=l.all.length+r.all.length:=by simp[T.all]
  rw[e];show cntT l+cntT r+1<=_;have e1:257-d=(257-(d+1))+1:=by omega
  rw[e1,Nat.mul_succ,Nat.add_mul];omega
theorem clink_s(x:Lk)(h:x.ds.length<=1000000/\x.xs.length<=1000000/\x.rs.length<=1000000):PS cfg G 109 [lkG x] (lkG x):=by
 obtain⟨h1,h2,h3⟩:=h;exact gI 11 O (λR k0=>gC 0 O (cld_s x.ds false Xd) (gC 3 O (clx_s x.xs false Xd) (gC 9 O (clr_s x.rs false Xd) (gQa 11 O))))
theorem ctrn_s(l:List Lk)(f:Bool)(hl:l.length<=1000000)(hs:∀x∈l,x.ds.length<=1000000/\x.xs.length<=1000000/\x.rs.length<=1000000):PL cfg G 180 [.fz (l.map lkG) 102 f,.fn 109 [] []] 118 102 (l.map lkG):=by
 have e:(l.map lkG).length=l.length:=List.length_map _;intro R;refine gIs 14 O (λk0=>?_);refine gZ 0 O e (zbq 4 O ?_);refine QOq (α:=Nat) (λi=>i<=l.length) 5 (λi=>(l.take i).map lkG) 118 102 (λi=>[(10,.int .i64 (i:Int))]) [(1,_),(4,_),(8,_),(9,_)] _ (λi=>l.length-i) (0) ⟨rfl,rfl,rfl,rfl,trivial⟩ (Nat.zero_le _) ⟨rfl,trivial⟩ O O O (λi hI=>?_);refine zKq 6 O ?_;refine gS 0 O (λh1=>?_) (λh1=>?_)
 ·have hi:i<l.length:=by omega
  obtain⟨x,hx⟩:∃x,l[i]? =some x:=⟨_,List.getElem?_eq_getElem hi⟩
  have es:(l.take (i+1)).map lkG=(l.take i).map lkG++[lkG x]:=by rw[List.take_add_one,hx,List.map_append];rfl
  have el:((l.take i).map lkG).length=i:=by simp;omega
  have ep:purL ((l.take i).map lkG++[lkG x])=true:=by rw[<-es];exact Qtq _
  have ep2:purL ((l.take i).map lkG)=true:=Qtq _;exact gP 6 O (zqq (i:=i) O O O O O O O (ziq lkG hx)) (gC 9 O (clink_s x (hs x (List.mem_of_getElem? hx))) (gM 1 O (z6q O O (jjq [_,_] (k:=ti118) (news:=[lkG x]) O O O O O (yzq O O O O) Xh (by show(((l.take i).map lkG).length+1)*192<=_;omega) (by show((l.take i).map lkG).length+1<=_;omega) rfl Xh)) (gWr 5 O (zbq 2 O (kJq 3 (i+1) (hi) Xd (Nat.zero_le _) (es) Xy Xd Ym rfl Yc ⟨rfl,trivial⟩ ⟨rfl,rfl,rfl,rfl,trivial⟩ Xg Xg rfl Xk Xj Yf)))))
 ·have hi:i=l.length:=by omega
  subst hi;rw[List.take_length];exact zbq 2 O (qbq Xi (z0q 9 O (fin Qs (yXq (fr2:=[(4,gW 0 102 (l.map lkG))]) ⟨rfl,trivial⟩ O O) rfl ⟨rfl,rfl,rfl,rfl⟩)))
theorem SmallC.vl{c:Ch}(h:SmallC c):c.tree.nodes.length<=1000000000:=by have:=h.nodes;omega
noncomputable def noCh:W:=.agg 3 [.agg 2 [.nils,.int .i64 0],.nils]
theorem seqb_s(a b:List UInt8)(f g:Bool)(hb:a.length<=1000000000):PS cfg G 170 [.fz (zaq a) 1 f,.fz (zaq b) 1 g] (.bool (decide (a=b))):=by
 have ea:=zeq a;have eb:=zeq b;refine gI 9 O (λR k0=>gZ 0 O ea (gZ 1 O eb ?_));refine gS 3 O (λh1=>?_) (λh1=>?_)
 ·exact gQ 7 O Yb
 ·refine gZ 6 O ea ?_;refine gLo (α:=Nat) 4 (λi=>i<=a.length/\a.take i=b.take i) (λi=>[(13,.int .i64 (i:Int))]) [0,1,4,12] (λi=>a.length-i) (0) rfl (⟨Nat.zero_le _,rfl⟩) (λi hI=>?_);obtain⟨g1,g2⟩:=hI;refine gS 6 O (λh2=>?_) (λh2=>?_)
  ·obtain⟨x,hx⟩:∃x,a[i]? =some x:=⟨_,List.getElem?_eq_getElem Xd⟩
   obtain⟨y,hy⟩:∃y,b[i]? =some y:=⟨_,List.getElem?_eq_getElem Xd⟩
   refine gP 14 O (zqq (i:=i) O O O O O O O (koq hx)) (gP 3 O (zqq (i:=i) O O O O O O O (koq hy)) ?_);refine gS 4 O (λh3=>?_) (λh3=>?_)
   ·exact gO 8 O (gQ 2 O (by rw[decide_eq_false (Ztq hx hy λq=>h3 Yq)]))
   ·exact gA 4 O (i+1) (gAg 2 O (i+1) (⟨by omega,quq g2 hx hy (UInt8.toNat_inj.1 (Int.ofNat.inj (Classical.not_not.1 h3)))⟩) Xd)
  ·exact gO 2 O (gQ 8 O Ye)
end
section
attribute [local irreducible] CoW OpW FlW Step Spec
attribute [local simp] jsq
theorem LkS.of0{c:Ch}{box:Dig}{x:Lk}(h:∃n t0,IsA (verT c x.root) n t0/\x.hdr=firH t0/\x.ds=[]/\x.xs=[]):LkS c box 0 x:=⟨λ_=>h,λy h0=>absurd h0 Xl⟩
end
section
attribute [local irreducible] CoW OpW FlW Step Spec
attribute [local simp] jsq
open Classical in
noncomputable def heldL(t:Tree):List Pr:=if h:∃n t0,IsA t n t0 then h.choose_spec.choose.all else []
structure CanAdd(c:Ch)(ds:List Depo)(xs:List Tx)(box:Dig):Prop where
 may:MayC c
 short:c.links.length<256
 many:ds.length<=16/\xs.length<=16
 goes:doX box (doD (heldL c.tree) ds).1 xs≠none
noncomputable instance(c:Ch)(ds:List Depo)(xs:List Tx)(box:Dig):Decidable (CanAdd c ds xs box):=Classical.propDecidable _
end
section
attribute [local irreducible] CoW OpW FlW Step Spec
variable {G:Nat->Option W}
def Q2q(ps:List Pr):Prop:=∀p∈ps,(qIq p.2).2=0
noncomputable instance(ps:List Pr):Decidable (Q2q ps):=Classical.propDecidable _
theorem rheld_s(ps:List Pr)(f:Bool)(hb:ps.length<=1000000000):PS cfg G 189 [.fz (ps.map pW) 33 f] (.bool (decide (Q2q ps))):=by
 have e:(ps.map pW).length=ps.length:=List.length_map _;refine gI 12 O (λR k0=>?_);refine gLo (α:=Nat) 0 (λi=>i<=ps.length/\∀j x,j<i->ps[j]? =some x->(qIq x.2).2=0) (λi=>[(3,.int .i64 (i:Int))]) [0,2] (λi=>ps.length-i) (0) rfl (⟨Nat.zero_le _,λj x h=>by omega⟩) (λi hI=>?_);obtain⟨g1,g2⟩:=hI;refine gV (w':=.int .i64 (ps.length:Int)) 5 O Xu ?_;refine gS 3 O (λh1=>?_) (λh1=>?_)
 ·have hi:i<ps.length:=by omega
  obtain⟨x,hx⟩:∃x,ps[i]? =some x:=⟨_,List.getElem?_eq_getElem hi⟩
  refine gP 8 O (zqq (i:=i) O O O O O O O (ziq pW hx)) (gC 2 O (raread_s _ _) ?_);refine gS 14 O (λh2=>?_) (λh2=>?_)
  ·refine gO 8 O (zbq 2 O ?_);have hno:¬Q2q ps:=λh=>by have:=h x (List.mem_of_getElem? hx);omega
   exact gQ 0 O Xz
  ·have h0:(qIq x.2).2=0:=by omega
   exact gA 5 O (i+1) (gAg 2 O (i+1) (⟨hi,λj y hj hy=>by rcases Nat.lt_succ_iff_lt_or_eq.1 hj with q|rfl;exact g2 j y q hy;have:=Option.some.inj (hx.symm.trans hy);subst this;exact h0⟩) Xd)
 ·refine gO 2 O (zbq 8 O ?_)
  have yes:Q2q ps:=λp hp=>by
   obtain⟨j,hj⟩:=List.getElem?_of_mem hp;have:=(List.getElem?_eq_some_iff.1 hj).1;exact g2 j p Xd hj
  exact gQ 0 O (by rw[decide_eq_true yes])
theorem mayA_iff{t:Tree}{n:Nat}{t0:T}(h:IsT t n t0):MayA t↔Q2q t0.all:=by
 constructor
 ·rintro⟨n',t',h'⟩;have hn:n=n':=by have:=h.root;have:=h'.root;omega
  subst hn;rw[h.rep.uniq h'.rep];exact h'.held
 ·exact λq=>⟨n,t0,h,q⟩
theorem mayA_T{t:Tree}(h:MayA t):MayT t:=by obtain⟨n,t0,h⟩:=h;exact h.toIsT.may
theorem ramay_s(t:Tree)(hb:t.nodes.length<=4611686018427387903):PS cfg G 117 [tW t] (.bool (decide (MayA t))):=by
 by_cases hT:MayT t
 ·obtain⟨n,t0,h⟩:=may_is hT;have hl:t0.all.length<=1000000000:=by have:=h.all_le;have:=h.len;omega
  have h2:decide (MayA t)=decide (Q2q t0.all):=decide_eq_decide.2 (mayA_iff h);rw[h2];refine gI 9 O (λR k0=>gC 0 O (zWq (w':=.bool true) (rmay_s t hb) (by rw[decide_eq_true hT])) ?_);refine gB 0 O (λh1=>?_) (λh1=>?_)
  ·exact gC 2 O (rall_s t n t0 h) (gC 0 O (rheld_s _ _ Xq) (gQa 5 O))
  ·exfalso;exact h1 rfl
 ·have h2:decide (MayA t)=false:=decide_eq_false λh=>hT (mayA_T h)
  rw[h2];refine gI 9 O (λR k0=>gC 0 O (zWq (w':=.bool false) (rmay_s t hb) (by rw[decide_eq_false hT])) ?_);refine gB 0 O (λh1=>?_) (λh1=>?_)
  ·exfalso;cases h1
  ·exact gQa 9 O
theorem IsT.le{t:Tree}{n:Nat}{t0:T}(h:IsT t n t0):t0.all.length<=262144:=Nat.le_trans h.all_le h.len
theorem IsT.vle{t:Tree}{n:Nat}{t0:T}(h:IsT t n t0):∀x∈t0.all,x.2.length<=70368744177664:=λx hx=>by have:=(h.val x hx).2;omega
theorem tx_sub(x:Tx):yxq 50 (txW x) 0 32 1=some (zaq x.pub.1)/\yxq 50 (txW x) 32 32 1=some (zaq x.to.1):=by
 have h:∀d:Dig,(zaq d.1).length=32:=λd=>by rw[zeq,d.2]
 constructor
 ·show some (((zaq x.pub.1).drop (0/1)).take 32)=_;rw[show 0/1=0 from rfl,List.drop_zero,List.take_of_length_le (by rw[h];omega)]
 ·show some (((zaq x.to.1).drop (0/1)).take 32)=_;rw[show 0/1=0 from rfl,List.drop_zero,List.take_of_length_le (by rw[h];omega)]
theorem rbody_s(x:Tx)(hx:x.ok):PS cfg G 255 [txW x] (bW (Ylq x)):=by
 have h1:=hx.nonce;have h2:=hx.amount;have h3:=hx.fee;have l1:(zaq x.pub.1).length=32:=by rw[zeq,x.pub.2]
 have l2:(zaq x.to.1).length=32:=by rw[zeq,x.to.2]
 have n1:(zaq (beB 8 x.nonce)).length=8:=by rw[zeq,q5q]
 have n2:(zaq (beB 8 x.amount)).length=8:=by rw[zeq,q5q]
 have n3:(zaq (beB 8 x.fee)).length=8:=by rw[zeq,q5q]
 have eb:zaq (Ylq x)=(((zaq x.pub.1++zaq x.to.1)++zaq (beB 8 x.nonce))++zaq (beB 8 x.amount))++zaq (beB 8 x.fee):=by simp[Ylq,zaq]
 refine gIv 16 O (λR k0=>gM 0 O (z6q O O (k0q (k:=ti5) (news:=zaq x.pub.1) O O O O (yzq O O O (tx_sub x).1) (by intro h;rw[h] at l1;cases l1) (by rw[l1];decide) (by rw[l1];decide))) (gM 8 O (z6q O O (yZq (k:=ti5) (len:=(zaq x.pub.1).length) (news:=zaq x.to.1) (olds:=zaq x.pub.1) O O O O (yzq O O O (tx_sub x).2) (by intro h;rw[h] at l2;cases l2) (by rw[l1,l2];decide) (by rw[l1,l2];decide) rfl (by show(zaq x.pub.1).length*1<0+(_+_)*1;rw[l1,l2];decide) rfl (zkq Xl O O))) (zbq 7 O ?_)))
 ((refine zLq rfl (jbq O O O O O O (jLq _ 8 Xq Xd) ?_);rintro w hp1 nw1 ⟨rfl,rfl,rfl⟩))
 refine zpq 11 O ?_
 ((refine zLq rfl (jbq O O O O O O (jLq _ 8 Xq Xd) ?_);rintro w hp1 nw1 ⟨rfl,rfl,rfl⟩))
 refine zpq 11 O ?_
 ((refine zLq rfl (jbq O O O O O O (jLq _ 8 Xq Xd) ?_);rintro w hp1 nw1 ⟨rfl,rfl,rfl⟩))
 exact zpq 11 O (gM 0 O (z6q O O (yZq (k:=ti5) (len:=(zaq x.pub.1).length+(zaq x.to.1).length) (news:=zaq (beB 8 x.nonce)) (olds:=zaq x.pub.1++zaq x.to.1) O O O O (yzq O O O (zkq Xl n1.symm rfl)) (by intro h;rw[h] at n1;cases n1) (by rw[l1,l2,n1];decide) (by rw[l1,l2,n1];decide) rfl (by show(_+_)*1<0+(_+_)*1;rw[l1,l2,n1];decide) rfl (zkq Xl List.length_append.symm rfl))) (gM 7 O (z6q O O (yZq (k:=ti5) (len:=(zaq x.pub.1).length+(zaq x.to.1).length+(zaq (beB 8 x.nonce)).length) (news:=zaq (beB 8 x.amount)) (olds:=(zaq x.pub.1++zaq x.to.1)++zaq (beB 8 x.nonce)) O O O O (yzq O O O (zkq Xl n2.symm rfl)) (by intro h;rw[h] at n2;cases n2) (by rw[l1,l2,n1,n2];decide) (by rw[l1,l2,n1,n2];decide) rfl (by show(_+_)*1<0+(_+_)*1;rw[l1,l2,n1,n2];decide) rfl (zkq Xl (by rw[List.length_append,List.length_append]) rfl))) (gM 7 O (z6q O O (yZq (k:=ti5) (len:=(zaq x.pub.1).length+(zaq x.to.1).length+(zaq (beB 8 x.nonce)).length+(zaq (beB 8 x.amount)).length) (news:=zaq (beB 8 x.fee)) (olds:=((zaq x.pub.1++zaq x.to.1)++zaq (beB 8 x.nonce))++zaq (beB 8 x.amount)) O O O O (yzq O O O (zkq Xl n3.symm rfl)) (by intro h;rw[h] at n3;cases n3) (by rw[l1,l2,n1,n2,n3];decide) (by rw[l1,l2,n1,n2,n3];decide) rfl (by show(_+_)*1<0+(_+_)*1;rw[l1,l2,n1,n2,n3];decide) rfl (zkq Xl (by rw[List.length_append,List.length_append,List.length_append]) rfl))) (zbq 4 O (jZq Qs O (.sl (full:=false) (xs:=zaq (Ylq x)) rfl (show purL ((((zaq x.pub.1++zaq x.to.1)++zaq (beB 8 x.nonce))++zaq (beB 8 x.amount))++zaq (beB 8 x.fee))=true by rw[<-eb];simp) (by rw[eb,l1,l2,n1,n2,n3];exact zkq Xl (by simp[l1,l2,n1,n2,n3]) rfl) Xi))))))
theorem rtxcheck_s(x:Tx)(hx:x.ok):PS cfg G 186 [txW x] (.int .i64 (if x.sign=Y3q x then 0 else 110)):=by
 have hb:=body_len x;refine x3q (fn:=Tryz.f186) O O O (Ob rfl) (λR k0=>?_);by_cases h:x.sign=Y3q x
 ·rw[if_pos h];skip
  exact zKq 12 O (gC 0 O (rbody_s x hx) (gC 0 O (rtone_s 4 (Ylq x) Xd) (vDq (w':=.bool false) rfl (q4q O O O O (ywq O O O O O O x.sign (Y3q x) 250)) (by rw[decide_eq_true h];rfl) (ykq 11 O (gQa 0 O)))))
 ·rw[if_neg h];exact zKq 12 O (gC 0 O (rbody_s x hx) (gC 0 O (rtone_s 4 (Ylq x) Xd) (vDq (w':=.bool true) rfl (q4q O O O O (ywq O O O O O O x.sign (Y3q x) 250)) (by rw[decide_eq_false h];rfl) (ykq 10 O (gQa 0 O)))))
theorem rhof_s(h:Hdr)(hh:okH h):PS cfg G 256 [hdW h] (bW (hdB h)):=by
 obtain⟨i,p,s,r,j⟩:=h;obtain⟨h1,h2,h3,h4⟩:=hh;obtain⟨n,rfl⟩:=Int.eq_ofNat_of_zero_le h1;obtain⟨m,rfl⟩:=Int.eq_ofNat_of_zero_le h3;simp only at h2 h4;have e:hdB ⟨(n:Int),p,s,r,(m:Int)⟩=(((beB 8 n++p.1)++s.1)++r.1)++beB 4 m:=by simp[hdB]
 obtain⟨s1,s2,s3⟩:=hd_sub ⟨(n:Int),p,s,r,(m:Int)⟩;have l1:=p.2;have l2:=s.2;have l3:=r.2;have l4:=q5q 8 n;have l5:=q5q 4 m;have l6:(zaq (beB 4 m)).length=4:=by rw[zeq,l5]
 rw[e];refine gIv 10 O (λR k0=>gA 0 O (n) ?_)
 (refine zLq rfl (jbq O O O O O O (jLq n 8 Xd Xd) ?_);rintro w hp1 nw1 ⟨rfl,rfl,rfl⟩)
 refine zpq 11 O (gA 0 O (m) ?_)
 (refine zLq rfl (jbq O O O O O O (jLq m 4 Xd Xd) ?_);rintro w hp1 nw1 ⟨rfl,rfl,rfl⟩)
 exact zpq 12 O (gM 0 O (z6q O O (app_bs (k:=ti5) (L:=beB 8 n) (M:=p.1) O O O O O O (yzq O O O s1) rfl l4 Xd Xd)) (gM 8 O (z6q O O (app_bs (k:=ti5) (L:=beB 8 n++p.1) (M:=s.1) O O O O O O (yzq O O O s2) O O Xd (by simp[l1,l2,l4]))) (gM 8 O (z6q O O (app_bs (k:=ti5) (L:=(beB 8 n++p.1)++s.1) (M:=r.1) O O O O O O (yzq O O O s3) O O Xd (by simp[l1,l2,l3,l4]))) (gM 7 O (z6q O O (app_bs (k:=ti5) (L:=((beB 8 n++p.1)++s.1)++r.1) (M:=beB 4 m) O O O O O O (yzq O O O (zkq Xl l6.symm rfl)) O O Xd (by simp[l1,l2,l3,l4,l5]))) (zbq 4 O (jZq Qs rfl (.sl (full:=false) rfl Xh (zkq Xl (zeq _).symm rfl) Xi)))))))
theorem rhname_s(h:Hdr)(hh:okH h):PS cfg G 187 [hdW h] (dW (hashD h)):=by
 exact gI 9 O (λR k0=>gC 0 O (rhof_s h hh) (gC 0 O (rtone_s 6 (hdB h) (by rw[hdB_len];omega)) (gQa 4 O)))
theorem rhfol_s(h p:Hdr):PS cfg G 116 [hdW h,hdW p] (.bool (decide (FolB h p))):=by
 by_cases hh:okH h
 ·by_cases hp:okH p
  ·obtain⟨q1,q2,q3,q4⟩:=id hp;refine gI 10 O (λR k0=>gC 0 O (zWq (w':=.bool true) (vcq h) (by rw[decide_eq_true (hh)])) (gC 2 O (zWq (w':=.bool true) (vcq p) (by rw[decide_eq_true (hp)])) (gWr 6 O ?_)));refine gD 0 O (λh1=>?_) (λh1=>?_)
   ·exact gC 5 O (rhname_s p ⟨q1,q2,q3,q4⟩) (gUe 0 O (yaq O O O O (ywq O O O O O O _ _ 250)) zZq (gQ 5 O (dec_c ⟨λq=>⟨hh,hp,by simpa using h1,q⟩,λq=>q.2.2.2⟩)))
   ·exact gQ 12 O (ygq λq=>h1 (by simpa using q.2.2.1))
  ·skip
   exact gI 10 O (λR k0=>gC 0 O (zWq (w':=.bool true) (vcq h) (by rw[decide_eq_true (hh)])) (gC 2 O (zWq (w':=.bool false) (vcq p) (by rw[decide_eq_false (hp)])) (gQ 20 O (ygq λq=>hp q.2.1))))
 ·skip
  exact gI 10 O (λR k0=>gC 0 O (zWq (w':=.bool false) (vcq h) (by rw[decide_eq_false (hh)])) (gQ 23 O (ygq λq=>hh q.1)))
theorem rmbody_s(ds:List Depo)(xs:List Tx)(f g:Bool)(hx:∀x∈xs,x.ok)(hd:ds.length<=140737488351232)(hn:xs.length<=140737488351232):PS cfg G 115 [bodW ds xs f g] (.bool (decide (BodyM ds xs))):=by
 have e1:(ds.map pdW).length=ds.length:=List.length_map _;have e2:(xs.map txW).length=xs.length:=List.length_map _;refine gI 13 O (λR k0=>?_);refine gLo (α:=Nat) 0 (λi=>i<=xs.length/\∀j x,j<i->xs[j]? =some x->x.sign=Y3q x) (λi=>[(3,.int .i64 (i:Int))]) [1,2] (λi=>xs.length-i) (0) rfl (⟨Nat.zero_le _,λj x h=>by omega⟩) (λi hI=>?_);obtain⟨g1,g2⟩:=hI;refine gZ 6 O e2 ?_;refine gS 3 O (λh1=>?_) (λh1=>?_)
 ·obtain⟨x,hx1⟩:∃x,xs[i]? =some x:=⟨_,List.getElem?_eq_getElem Xd⟩
  refine gP 9 O (zqq (i:=i) O O O O O O O (ziq txW hx1)) ?_;refine gC 1 O (rtxcheck_s x (hx x (List.mem_of_getElem? hx1))) ?_;refine gS 3 O (λh2=>?_) (λh2=>?_)
  ·refine gO 8 O ?_;exact gQ 2 O (ygq λq=>h2 (by rw[if_pos (q.2.2 x (List.mem_of_getElem? hx1))]))
  ·have hs:x.sign=Y3q x:=Classical.byContradiction λq=>h2 (by rw[if_neg q];decide)
   refine gA 5 O (i+1) ?_;exact gAg 2 O (i+1) (⟨by omega,λj y hj hy=>by rcases Nat.lt_succ_iff_lt_or_eq.1 hj with q|rfl;exact g2 j y q hy;exact Option.some.inj (hx1.symm.trans hy)▸hs⟩) Xd
 ·have all:∀x∈xs,x.sign=Y3q x:=λx h=>by
   obtain⟨j,hj⟩:=List.getElem?_of_mem h;exact g2 j x Yx hj
  refine gO 2 O ?_;refine gZ 6 O e1 ?_;refine gD 0 O (λh2=>?_) (λh2=>?_)
  ·refine gZ 3 O e2 ?_;refine gU 0 O ?_;exact gQ 5 O (congrArg W.bool (by first|exact decide_eq_decide.2 ⟨λq=>⟨by omega,by omega,all⟩,λq=>by have:=q.2.1;omega⟩|(by_cases q:xs.length<=16; · rw[decide_eq_true (show BodyM ds xs from⟨by omega,q,all⟩),ltI_not.2 Xd];rfl; · rw[decide_eq_false (show¬BodyM ds xs from λh=>q h.2.1),ltI_iff.2 Xd];rfl)))
  ·exact gQ 10 O (ygq λq=>by have:=q.1;omega)
theorem rat17_s(c:Ch)(i:Nat)(x:Lk)(hx:c.links[i]? =some x):PS cfg G 118 [chG c,.int .i64 (i:Int)] (tW (verT c x.root)):=by
 exact gI 19 O (λR k0=>gP 0 O (zqq (i:=i) O O O O O O O (ziq lkG hx)) (gQa 13 O))
theorem at_prev{α:Type}{l:List α}{i:Nat}(h:i<l.length)(h0:0<i):∃y,l[i-1]? =some y:=⟨_,List.getElem?_eq_getElem Xd⟩
theorem rcmay_s(c:Ch)(hc:OkC c):PS cfg G 53 [chG c] (.bool (decide (MayC c))):=by
 have e:(c.links.map lkG).length=c.links.length:=List.length_map _;have hl:=hc.len;refine gI 10 O (λR k0=>gZ 0 O e ?_);refine gD 7 O (λh1=>?_) (λh1=>?_)
 ·have hno:¬MayC c:=λq=>by have:=q.one;omega
  exact gQ 27 O (ygq hno)
 obtain⟨z,hz⟩:∃z,c.links[c.links.length-1]? =some z:=⟨_,List.getElem?_eq_getElem Xd⟩
 refine gD 2 O (λh2=>?_) (λh2=>?_)
 ·have hno:¬MayC c:=λq=>by have:=q.len;omega
  exact gQ 24 O (ygq hno)
 refine gA 8 O (c.links.length-1) (gP 0 O (zqq (i:=c.links.length-1) O O O O O O O (ziq lkG hz)) (gU 2 O ?_));refine gS 3 O (λh3=>?_) (λh3=>?_)
 ·have hno:¬MayC c:=λq=>h3 (q.root z hz)
  exact gQ 7 O (ygq hno)
 refine gLo (α:=Nat) 9 (λi=>i<=c.links.length/\∀j x,j<i->c.links[j]? =some x->LkM c j x) (λi=>[(4,.int .i64 (i:Int))]) [1,2,3] (λi=>c.links.length-i) (0) rfl (⟨Nat.zero_le _,λj x h=>by omega⟩) (λi hI=>?_);obtain⟨g1,hI⟩:=hI;refine gS 8 O (λh4=>?_) (λh4=>?_)
 ·have hi:i<c.links.length:=by omega
  obtain⟨x,hx⟩:∃x,c.links[i]? =some x:=⟨_,List.getElem?_eq_getElem hi⟩
  have hB:=hc.body x (List.mem_of_getElem? hx);have er:(x.rs.map rcW).length=x.rs.length:=List.length_map _;refine gP 9 O (zqq (i:=i) O O O O O O O (ziq lkG hx)) ?_;refine gD 12 O (λh5=>?_) (λh5=>?_)
  ·have hno:¬MayC c:=λq=>h5 (q.link i x hx).height
   exact gO 33 O (gQ 2 O (ygq hno))
  refine gC 3 O (vcq x.hdr) ?_;refine gB 0 O (λh6=>?_) (λh6=>?_)
  ·refine gZ 5 O er ?_;refine gD 3 O (λh7=>?_) (λh7=>?_)
   ·have hno:¬MayC c:=λq=>h7 (q.link i x hx).recs
    exact gO 19 O (gQ 2 O (ygq hno))
   ·refine gC 4 O (rmbody_s x.ds x.xs false false hB.tx hB.dl hB.xl) ?_;refine gS 4 O (λh8=>?_) (λh8=>?_)
    ·have hno:¬MayC c:=λq=>absurd h8 (by rw[decide_eq_true (q.link i x hx).body];decide)
     exact gO 9 O (gQ 2 O (ygq hno))
    ·have hok:okH x.hdr:=h6;have hM:BodyM x.ds x.xs:=by simpa using h8
     refine gD 5 O (λh9=>?_) (λh9=>?_)
     ·obtain⟨y,hy⟩:=at_prev hi Xd;refine gA 6 O (i-1) (gP 0 O (zqq (i:=i-1) O O O O O O O (ziq lkG hy)) (gC 2 O (rhfol_s x.hdr y.hdr) ?_));refine gB 0 O (λh10=>?_) (λh10=>?_)
      ·refine gC 5 O (rat17_s c i x hx) (gC 0 O (ramay_s (verT c x.root) hc.nodes) ?_);refine gS 4 O (λh11=>?_) (λh11=>?_)
       ·have hno:¬MayC c:=λq=>absurd h11 (by rw[decide_eq_true (q.link i x hx).tree];decide)
        exact gO 8 O (gQ 2 O (ygq hno))
       ·have hx2:LkM c i x:=⟨by omega,hok,λw h0 hw=>Option.some.inj (hy.symm.trans hw)▸h10,by omega,hM,by simpa using h11⟩;exact gA 5 O (i+1) (gAg 2 O (i+1) (⟨hi,λj w hj hw=>by rcases Nat.lt_succ_iff_lt_or_eq.1 hj with q|rfl;exact hI j w q hw;exact Option.some.inj (hx.symm.trans hw)▸hx2⟩) Xd)
      ·have hno:¬MayC c:=λq=>h10 ((q.link i x hx).fol y Xd hy)
       exact gO 20 O (gQ 2 O (ygq hno))
     ·refine gC 16 O (rat17_s c i x hx) (gC 0 O (ramay_s (verT c x.root) hc.nodes) ?_);refine gS 4 O (λh10=>?_) (λh10=>?_)
      ·have hno:¬MayC c:=λq=>absurd h10 (by rw[decide_eq_true (q.link i x hx).tree];decide)
       exact gO 8 O (gQ 2 O (ygq hno))
      ·have hx2:LkM c i x:=⟨by omega,hok,λw h0 hw=>absurd h0 Xd,by omega,hM,by simpa using h10⟩;exact gA 5 O (i+1) (gAg 2 O (i+1) (⟨hi,λj w hj hw=>by rcases Nat.lt_succ_iff_lt_or_eq.1 hj with q|rfl;exact hI j w q hw;exact Option.some.inj (hx.symm.trans hw)▸hx2⟩) Xd)
  ·have hno:¬MayC c:=λq=>h6 (q.link i x hx).hdr
   exact gO 29 O (gQ 2 O (ygq hno))
 ·have yes:MayC c:=⟨by omega,by omega,λw hw=>by cases hz.symm.trans hw;omega,λj w hw=>hI j w (by have:=qXq hw;omega) hw⟩;exact gO 2 O (gQ 8 O (dec_t yes))
theorem mayp_srt{l:List Pr}(h:MayP l):Srt l:=by
 have key:∀n i j (hi:i<l.length) (hj:j<l.length),i+n+1=j->yCq l[i].1 l[j].1=true:=by
  intro n;induction n with
  |zero=>
   intro i j hi hj e;subst e;exact(h.2 (i+1) hj l[i+1] (List.getElem?_eq_getElem hj)).2 l[i] Xd (by show l[i+1-1]? =_;rw[Nat.add_sub_cancel];exact List.getElem?_eq_getElem hi)
  |succ n ih=>
   intro i j hi hj e;have h1:=ih i (j-1) hi Xd Xd;have h2:=(h.2 j hj l[j] (List.getElem?_eq_getElem hj)).2 l[j-1] Xd (List.getElem?_eq_getElem Xd);exact Z8q h1 h2
 exact List.pairwise_iff_getElem.2 λi j hi hj hij=>key (j-i-1) i j hi hj Xd
theorem take_with{l:List Pr}(h:Srt l){i:Nat}{x:Pr}(hx:l[i]? =some x):k8q (l.take i) x.1 x.2=l.take (i+1):=by
 obtain⟨hi,ex⟩:=List.getElem?_eq_some_iff.1 hx
 have hp:∀p∈l.take i,yCq p.1 x.1=true:=λp hp=>by
  obtain⟨j,hj⟩:=List.getElem?_of_mem hp;obtain⟨hj1,hj2⟩:=List.getElem?_eq_some_iff.1 hj;rw[List.length_take] at hj1;rw[List.getElem_take] at hj2;rw[<-hj2,<-ex];exact List.pairwise_iff_getElem.1 h j i Xd hi Xd
 unfold k8q;rw[List.filter_eq_self.2 hp,List.filter_eq_nil_iff.2 λp q=>by rw[jXq (hp p q)];simp,List.take_add_one,hx];rfl
theorem rpmay_s(ps:List Pr)(f:Bool)(hb:ps.length<=1000000000):PS cfg G 290 [.fz (ps.map pW) 33 f] (.bool (decide (MayP ps))):=by
 have e:(ps.map pW).length=ps.length:=List.length_map _;refine gI 9 O (λR k0=>gV (w':=.int .i64 (ps.length:Int)) 0 O Xu ?_);refine gS 3 O (λh1=>?_) (λh1=>?_)
 ·exact gQ 7 O (by rw[decide_eq_false λh:MayP ps=>by have:=h.1;omega])
 ·refine gLo (α:=Nat) 9 (λi=>i<=ps.length/\∀j,j<i->okAt ps j) (λi=>[(3,.int .i64 (i:Int))]) [0,2] (λi=>ps.length-i) (0) rfl (⟨Nat.zero_le _,λj hj=>by omega⟩) (λi hI=>?_);obtain⟨hi,hI⟩:=hI;refine gV (w':=.int .i64 (ps.length:Int)) 5 O Xu ?_;refine gS 3 O (λh2=>?_) (λh2=>?_)
  ·have hi':i<ps.length:=by omega
   obtain⟨x,hx⟩:∃x,ps[i]? =some x:=⟨_,List.getElem?_eq_getElem hi'⟩
   skip
   by_cases hv:valB x.2=true
   ·by_cases h0:0<i
    ·obtain⟨y,hy⟩:∃y,ps[i-1]? =some y:=⟨_,List.getElem?_eq_getElem Xd⟩
     by_cases ha:yCq y.1 x.1=true
     ·have ok:okAt ps i:=λx' hx'=>by
       obtain rfl:=Option.some.inj (hx.symm.trans hx');refine⟨hv,λz _ hz=>?_⟩;obtain rfl:=Option.some.inj (hy.symm.trans hz);exact ha
      refine gP 8 O (zqq (i:=i) O O O O O O O (ziq pW hx)) (gC 2 O (zWq (w':=.bool true) (uyq x.2 false) (by rw[hv])) (gT 3 O (ltI_iff.2 Xd) (gA 3 O (i-1) (gP 0 O (zqq (i:=i-1) O O O O O O O (ziq pW hy)) (gP 4 O (zqq (i:=i) O O O O O O O (ziq pW hx)) (gC 2 O (zWq (w':=.bool true) (rahead_s y.1 x.1) (by rw[ha])) (gA 11 O (i+1) ?_)))))));exact gAg 2 O (i+1) (⟨hi',λj hj=>by rcases Nat.lt_succ_iff_lt_or_eq.1 hj with h|rfl<;>first|exact hI j h|exact ok⟩) Xd
     ·have no:¬MayP ps:=λh=>ha ((h.2 i hi' x hx).2 y h0 hy)
      exact gP 8 O (zqq (i:=i) O O O O O O O (ziq pW hx)) (gC 2 O (zWq (w':=.bool true) (uyq x.2 false) (by rw[hv])) (gT 3 O (ltI_iff.2 Xd) (gA 3 O (i-1) (gP 0 O (zqq (i:=i-1) O O O O O O O (ziq pW hy)) (gP 4 O (zqq (i:=i) O O O O O O O (ziq pW hx)) (gC 2 O (zWq (w':=.bool false) (rahead_s y.1 x.1) (by rw[Bool.not_eq_true] at ha;rw[ha])) (gO 14 O (gQ 2 O (by rw[decide_eq_false no])))))))))
    ·have ok:okAt ps i:=λx' hx'=>by
      obtain rfl:=Option.some.inj (hx.symm.trans hx');exact⟨hv,λy h _=>absurd h h0⟩
     refine gP 8 O (zqq (i:=i) O O O O O O O (ziq pW hx)) (gC 2 O (zWq (w':=.bool true) (uyq x.2 false) (by rw[hv])) (gF 3 O (ltI_not.2 Xd) (gA 24 O (i+1) ?_)));exact gAg 2 O (i+1) (⟨hi',λj hj=>by rcases Nat.lt_succ_iff_lt_or_eq.1 hj with h|rfl<;>first|exact hI j h|exact ok⟩) Xd
   ·have no:¬MayP ps:=λh=>hv (h.2 i hi' x hx).1
    exact gP 8 O (zqq (i:=i) O O O O O O O (ziq pW hx)) (gC 2 O (zWq (w':=.bool false) (uyq x.2 false) (by rw[Bool.not_eq_true] at hv;rw[hv])) (gO 31 O (gQ 2 O (by rw[decide_eq_false no]))))
  ·refine gO 2 O (zbq 8 O ?_);have yes:MayP ps:=⟨by omega,λj hj=>hI j Xd⟩;exact gQ 0 O (by rw[decide_eq_true yes])
def okB(l:List Pr):Prop:=MayP l/\Q2q l
noncomputable instance(l:List Pr):Decidable (okB l):=Classical.propDecidable _
theorem begun_s(l:List Pr)(f:Bool)(hb:l.length<=1000000000):PS cfg G 225 [.fz (l.map pW) 33 f] (.bool (decide (okB l))):=by
 by_cases hm:MayP l
 ·by_cases hh:Q2q l
  ·rw[decide_eq_true (show okB l from⟨hm,hh⟩)];exact gI 8 O (λR k0=>gC 0 O (zWq (w':=.bool true) (rpmay_s l f hb) (by rw[decide_eq_true hm])) (gC 2 O (zWq (w':=.bool true) (rheld_s l f hb) (by rw[decide_eq_true hh])) (gQa 5 O)))
  ·rw[decide_eq_false (show¬okB l from λh=>hh h.2)];exact gI 8 O (λR k0=>gC 0 O (zWq (w':=.bool true) (rpmay_s l f hb) (by rw[decide_eq_true hm])) (gC 2 O (zWq (w':=.bool false) (rheld_s l f hb) (by rw[decide_eq_false hh])) (gQa 5 O)))
 ·rw[decide_eq_false (show¬okB l from λh=>hm h.1)];exact gI 8 O (λR k0=>gC 0 O (zWq (w':=.bool false) (rpmay_s l f hb) (by rw[decide_eq_false hm])) (gQa 8 O))
theorem rall_rep(t:Tree)(n:Nat)(t0:T)(h3:t.root=n)(rep:Rep t.nodes n t0)(hb:t.nodes.length<=4611686018427387903)(hl:t0.all.length<=1000000)(hv:∀p∈t0.all,p.2.length<=70368744177664):PS cfg G 183 [tW t] (psW t0.all):=by
 obtain⟨ns,root⟩:=t;simp only at h3 rep hb;subst h3;have P:=(rfor_s (G:=G) ⟨ns,(n:Int)⟩ hb t0 n rep hl hv).ps Xl (qrq _);exact gI 11 O (λR k0=>Ygq O O O O O O P Xh Xh (zpq 4 O (gQa 0 O)))
end
section
attribute [local irreducible] CoW OpW FlW Step Spec
noncomputable def newL(t:Tree)(t0:T):Lk:=⟨firH t0,t.root,[],[],[]⟩
noncomputable abbrev newX(t:Tree)(t0:T):W:=.agg 102 [hdW (firH t0),.int .i64 t.root,.agg 2 [.fz [] 34 false,.fz [] 99 false],.fz [] 34 false]
noncomputable def newC(t:Tree)(t0:T):Ch:=⟨t,[newL t t0]⟩
def ChNA(l:List Pr):W->Prop:=λw=>(¬okB l/\w= .tup [noCh,.int .i64 8])\/(okB l/\∃t n t0,IsA t n t0/\t0.all=l/\t.nodes.length<=257*l.length/\w= .tup [chG (newC t t0),.int .i64 0])
theorem cnew_s(l:List Pr)(f:Bool)(hb:l.length<=1000000000):PE cfg glK 124 [.fz (l.map pW) 33 f] (ChNA l):=by
 by_cases hm:MayP l
 ·have hs:=mayp_srt hm;have e:(l.map pW).length=l.length:=List.length_map _;have h512:=hm.1;refine gIe 10 O (λR k0=>gC 0 O (zWq (w':=.int .i64 0) (Qiq l f Xd) (by rw[if_pos hm])) (gV (w':=.int .i64 (l.length:Int)) 21 O Xu (zbq 4 O (co_ent (ent_blkv (b:=1) (w':=tW ⟨[],0⟩) rfl (.agg (.cons .nilfz (.cons (.pur rfl) .nil)))) ?_))));refine yLq (α:=Nat×Tree×T) (λp=>p.1<=l.length/\(∃n,IsT p.2.1 n p.2.2)/\p.2.2.all=l.take p.1/\p.2.1.nodes.length<=257*p.1) (λp=>[(22,.int .i64 (p.1:Int))]) [(2,_),(3,_),(5,_),(20,_),(21,_)] (λp=>[(1,24,tW p.2.1),(0,27,noCh)]) (λp=>l.length-p.1) ((0,⟨[],0⟩,.nil)) ⟨rfl,rfl,rfl,rfl,rfl,trivial⟩ (⟨Nat.zero_le _,⟨0,by show(0:Nat)<=_;omega,λi x h=>by simp at h,rfl,.nil,rfl⟩,rfl,Nat.le_refl _⟩) ⟨rfl,trivial⟩ (rfl) (λp hI=>?_);obtain⟨i,t,t0⟩:=p;obtain⟨g1,⟨n,g2⟩,g3,g4⟩:=hI;simp only at g1 g2 g3 g4⊢;refine zKq 6 O ?_;refine gS 0 O (λh1=>?_) (λh1=>?_)
  ·have hi:i<l.length:=by omega
   obtain⟨x,hx⟩:∃x,l[i]? =some x:=⟨_,List.getElem?_eq_getElem hi⟩
   have hv:MayP [(x.1,x.2)]:=(Qrq x.1 x.2).2 (hm.2 i hi x hx).1;refine gP 6 O (zqq (i:=i) O O O O O O O (ziq pW hx)) (gE 12 O (tput_s t n t0 x.1 x.2 false g2 hv Xd) ?_);rintro w hw ⟨t',n',ht',⟨ms,hms,hml⟩,rfl⟩;refine gFa 12 O (gA 12 O (i+1) (zbq 2 O ?_));have hall:(t0.put x.1 x.2 256).all=l.take (i+1):=by rw[(jtq x.1 x.2 256 t0 (d:=0) (b:=yyq) rfl k7q g2.ok (Nat.zero_le _)).2,g3];exact take_with hs hx
   exact q_againH ((i+1,t',t0.put x.1 x.2 256)) (⟨hi,⟨n',ht'⟩,hall,by show t'.nodes.length<=_;rw[hms,List.length_append];omega⟩) Yd (Nat.zero_le _) ⟨rfl,trivial⟩ ⟨rfl,rfl,rfl,rfl,rfl,trivial⟩ Xg Xg Xd Xj Yf
  ·have hi:i=l.length:=by omega
   have hall:t0.all=l:=by rw[g3,hi,List.take_length]
   have hiff:=mayA_iff g2;rw[hall] at hiff;by_cases hh:Q2q l
   ·skip
    have hA:MayA t:=hiff.2 hh;obtain⟨n2,t2,hA2⟩:=hA;refine zbq 2 O (qbq Xi (z0q 6 O (gC 0 O (zWq (w':=.int .i64 0) (acheck_s t Xd) (by rw[if_pos ⟨n2,t2,hA2⟩])) (gFa 6 O (gC 8 O (tsum_ok t n t0 g2) (gC 11 O tnone_s (gV (w':=hdW (firH t0)) 0 O (by show W.agg 98 [_,W.arr 32 1 (List.replicate 32 (.int .u8 (.ofNat 0))),_,_,_]=_;rw[xuq];rfl) (zbq 18 O ?_))))))));refine z9q (w':=.tup [.agg 3 [tW t,.fz [newX t t0] 102 false],.int .i64 0]) Qs rfl (.tup (.cons (.agg (.cons (.pur Xh) (.cons (.sl2 (full:=false) (c':=newX t t0) (xs:=[newX t t0]) rfl (.agg (.cons (.pur (hdW_pur _)) (.cons (.pur rfl) (.cons (.agg (.cons .nilfz (.cons .nilfz .nil))) (.cons .nilfz .nil))))) rfl Xi) .nil))) (.cons (.pur rfl) .nil))) (by simp[purW,purL]) (.inr ⟨⟨hm,hh⟩,t,n,t0,?_,hall,by rw[<-hi];exact g4,rfl⟩);exact⟨g2,by rw[hall];exact hh⟩
   ·exact zbq 2 O (qbq Xi (z0q 6 O (gC 0 O (zWq (w':=.int .i64 8) (acheck_s t Xd) (by rw[if_neg (λq=>hh (hiff.1 q))])) (gTa 6 O (zbq 13 O (z9q (w':=.tup [noCh,.int .i64 8]) Qs rfl (.pur rfl) rfl (.inl ⟨λq=>hh q.2,rfl⟩)))))))
 ·skip
  exact gIe 10 O (λR k0=>gC 0 O (zWq (w':=.int .i64 8) (Qiq l f Xd) (by rw[if_neg hm])) (zbq 20 O (z9q (w':=.tup [noCh,.int .i64 8]) Qs rfl (.pur rfl) rfl (.inl ⟨λq=>hm q.1,rfl⟩))))
theorem newC_is{t:Tree}{n:Nat}{t0:T}(h:IsA t n t0)(box:Dig):SoundC (newC t t0) box:=by
 refine⟨⟨by simp[newC],by simp[newC],λx e=>by cases e;rfl,λi x e=>?_⟩,λi x e=>?_⟩
 ·have hi:=qXq e;obtain rfl:i=0:=by simp[newC] at hi;exact hi
  cases e;exact⟨rfl,⟨by show(0:Int)<=0;decide,by show(0:Int)<=1073741824;decide,by show(0:Int)<=0;decide,by show(0:Int)<=256;decide⟩,λy h0=>absurd h0 Xl,rfl,⟨Nat.zero_le _,Nat.zero_le _,λx h=>by cases h⟩,n,t0,h⟩
 ·have hi:=qXq e;obtain rfl:i=0:=by simp[newC] at hi;exact hi
  cases e;exact LkS.of0 ⟨n,t0,h,rfl,rfl,rfl⟩
end
section
attribute [local irreducible] CoW OpW FlW Step Spec
variable {G:Nat->Option W}
attribute [local simp] jsq
theorem srt_tree{l:List Pr}(hs:Srt l):∃t:T,t.ok 0 yyq=true/\t.all=l:=by
 have key:∀i,i<=l.length->∃t:T,t.ok 0 yyq=true/\t.all=l.take i:=by
  intro i;induction i with
  |zero=>exact λ_=>⟨.nil,rfl,by simp[T.all]⟩
  |succ i ih=>
   intro hi;obtain⟨t,h1,h2⟩:=ih Xd;obtain⟨x,hx⟩:∃x,l[i]? =some x:=⟨_,List.getElem?_eq_getElem Xd⟩
   obtain⟨p1,p2⟩:=jtq x.1 x.2 256 t (d:=0) (b:=yyq) rfl k7q h1 (Nat.zero_le _);exact⟨t.put x.1 x.2 256,p1,by rw[p2,h2];exact take_with hs hx⟩
 obtain⟨t,h1,h2⟩:=key l.length (Nat.le_refl _);exact⟨t,h1,by rw[h2,List.take_length]⟩
open Classical in
/-- the trie of pairs in order -/
noncomputable def trieL(l:List Pr):T:=if h:Srt l then(srt_tree h).choose else .nil
theorem trie_ok{l:List Pr}(h:Srt l):(trieL l).ok 0 yyq=true/\(trieL l).all=l:=by
 unfold trieL;rw[dif_pos h];exact(srt_tree h).choose_spec
end
section
attribute [local irreducible] CoW OpW FlW Step Spec
attribute [local simp] jsq
variable {G:Nat->Option W}
noncomputable def rrefW(c:Nat):W:=.tup [.nils,hdW hdZ,.nils,.int .i64 (c:Int)]
@[simp] theorem rrefW_pur(c:Nat):purW (rrefW c)=true:=by simp[rrefW,purW,purL]
structure PW where
 w:W
 pur:purW w=true
attribute [local simp] PW.pur
end
section
attribute [local irreducible] CoW OpW FlW Step Spec
variable {G:Nat->Option W}
def SameK(x y:Lk):Prop:=x.hdr=y.hdr/\(x.ds=y.ds/\x.xs=y.xs)/\x.rs=y.rs
noncomputable instance(x y:Lk):Decidable (SameK x y):=Classical.propDecidable _
theorem vSq(x y:Lk)(h:x.ds.length<=1000000/\x.xs.length<=1000000/\x.rs.length<=1000000):PS cfg G 119 [lkG x,lkG y] (.bool (decide (SameK x y))):=by
 obtain⟨h1,h2,h3⟩:=h;refine gI 13 O (λR k0=>?_);refine gDe 0 O (yaq O O O O (eq_hd _ _)) zZq (λh1=>?_) (λh1=>?_)
 ·refine gC 5 O (rsbody_s x.ds x.xs y.ds y.xs false false false false Xd Xd) ?_;refine gB 0 O (λh2=>?_) (λh2=>?_)
  ·exact gC 6 O (rseqr_s x.rs y.rs false false Xd) (gQ 5 O (dec_c ⟨λq=>⟨by assumption,by assumption,q⟩,λq=>q.2.2⟩))
  ·exact gQ 12 O (ygq λq=>absurd q.2.1 Xq)
 ·exact gQ 18 O (ygq λq=>absurd q.1 Xq)
theorem rcfirst_s(t0:T)(ok:t0.ok 0 yyq=true)(hs:vIq t0)(hl:t0.all.length<=1000000):PS cfg G 227 [psW t0.all] (hdW (firH t0)):=by
 exact gI 8 O (λR k0=>gC 0 O (rof_s t0 0 yyq false k7q ok hs hl) (gC 0 O (rtnone_s) (gQ 5 O (by unfold firH hdW;simp only;rw[<-xuq];rfl))))
theorem lk_same{x y:Lk}:SameK x y/\x.root=y.root↔x=y:=by
 constructor
 ·rintro⟨⟨h1,⟨h2,h3⟩,h4⟩,h5⟩;cases x;cases y
  simp only at h1 h2 h3 h4 h5;subst h1;subst h2;subst h3;subst h4;subst h5;rfl
 ·rintro rfl;exact⟨⟨rfl,⟨rfl,rfl⟩,rfl⟩,rfl⟩
noncomputable instance(a b:Ch):Decidable (a=b):=Classical.propDecidable _
theorem rcsame_s(a b:Ch)(ha:SmallC a)(hb:SmallC b):PS cfg G 55 [chG a,chG b] (.bool (decide (a=b))):=by
 have ea:(a.links.map lkG).length=a.links.length:=List.length_map _;have eb:(b.links.map lkG).length=b.links.length:=List.length_map _;have h1:=ha.nodes;have h2:=ha.len;have h3:=hb.len;by_cases ht:a.tree=b.tree
 ·by_cases hl:a.links.length=b.links.length
  ·skip
   refine gI 14 O (λR k0=>gC 0 O (zWq (w':=.bool true) (Y7q a.tree b.tree Xd) (by rw[decide_eq_true (ht)])) (gZ 4 O ea (gZ 2 O eb (gF 0 O (congrArg not (eqI_iff.2 Xd)) ?_))));refine gLo (α:=Nat) 13 (λi=>i<=a.links.length/\a.links.take i=b.links.take i) (λi=>[(5,.int .i64 (i:Int))]) [2,3,4] (λi=>a.links.length-i) (0) rfl (⟨Nat.zero_le _,rfl⟩) (λi hI=>?_);obtain⟨g1,g2⟩:=hI;refine gZ 6 O ea ?_;refine gS 3 O (λh1=>?_) (λh1=>?_)
   ·obtain⟨x,hx⟩:∃x,a.links[i]? =some x:=⟨_,List.getElem?_eq_getElem Xd⟩
    obtain⟨y,hy⟩:∃y,b.links[i]? =some y:=⟨_,List.getElem?_eq_getElem Xd⟩
    have hxs:=ha.link x (List.mem_of_getElem? hx);skip
    by_cases hk:SameK x y
    ·by_cases hr:x.root=y.root
     ·exact gP 9 O (zqq (i:=i) O O O O O O O (ziq lkG hx)) (gP 4 O (zqq (i:=i) O O O O O O O (ziq lkG hy)) (gC 1 O (zWq (w':=.bool true) (vSq x y hxs) (by rw[decide_eq_true (hk)])) (gP 5 O (zqq (i:=i) O O O O O O O (ziq lkG hx)) (gP 5 O (zqq (i:=i) O O O O O O O (ziq lkG hy)) (gF 2 O (congrArg not (eqI_iff.2 (hr))) (gA 9 O (i+1) (gAg 2 O (i+1) (⟨by omega,quq g2 hx hy (lk_same.1 ⟨hk,hr⟩)⟩) Xd)))))))
     ·exact gP 9 O (zqq (i:=i) O O O O O O O (ziq lkG hx)) (gP 4 O (zqq (i:=i) O O O O O O O (ziq lkG hy)) (gC 1 O (zWq (w':=.bool true) (vSq x y hxs) (by rw[decide_eq_true (hk)])) (gP 5 O (zqq (i:=i) O O O O O O O (ziq lkG hx)) (gP 5 O (zqq (i:=i) O O O O O O O (ziq lkG hy)) (gT 2 O (congrArg not (eqI_not.2 (hr))) (gO 12 O (gQ 2 O (ygq λq=>Ztq hx hy (λz=>hr (by rw[z])) Yq))))))))
    ·exact gP 9 O (zqq (i:=i) O O O O O O O (ziq lkG hx)) (gP 4 O (zqq (i:=i) O O O O O O O (ziq lkG hy)) (gC 1 O (zWq (w':=.bool false) (vSq x y hxs) (by rw[decide_eq_false (hk)])) (gO 27 O (gQ 2 O (ygq λq=>Ztq hx hy (λz=>hk (lk_same.2 z).1) Yq)))))
   ·refine gO 2 O ?_
    exact gQ 8 O (dec_t (by
     have:=q7q (a:=a.links) (b:=b.links) Xd Xd g2;cases a;cases b;simp only at this ht;rw[this,ht]))
  ·skip
   exact gI 14 O (λR k0=>gC 0 O (zWq (w':=.bool true) (Y7q a.tree b.tree Xd) (by rw[decide_eq_true (ht)])) (gZ 4 O ea (gZ 2 O eb (gT 0 O (congrArg not (eqI_not.2 Xd)) (gQ 11 O (ygq λq=>hl Yq))))))
 ·skip
  exact gI 14 O (λR k0=>gC 0 O (zWq (w':=.bool false) (Y7q a.tree b.tree Xd) (by rw[decide_eq_false (ht)])) (gQ 20 O (ygq λq=>ht Yq)))
end
section
variable {G:Nat->Option W}
theorem pe_res{C:Cfg}{f:FuncId}{ws:List W}{A B:W->Prop}(h:PE C G f ws A)(hi:∀w,purW w=true->A w->∃w',View (λ_=>none) w w'/\purW w'=true/\B w'):PE C G f ws B:=λR Γ X vs h1 s hv=>by
 obtain⟨n,v,Γ',X',w',hp',R',g1,g2,g3,g4,g5,g6,g7⟩:=h R Γ X vs h1 s hv;obtain⟨w2,a1,a2,a3⟩:=hi w' g6 g7;exact⟨n,v,Γ',X',w2,hp',R',g1,g2,g3,ktq ⟨λ_ h _=>h,λ_ _ _=>rfl,λ_ h=>h,λ_ _=>rfl,λ_ _ _ h=>Yz⟩ a1 g4,g5,a2,a3⟩
attribute [local irreducible] CoW OpW FlW Step Spec
def noC:Ch:=⟨⟨[],0⟩,[]⟩
theorem noc_view(μ:Nat->Option W)(e:Int):View μ (.tup [noCh,.int .i64 e]) (.tup [chG noC,.int .i64 e]):=.tup (.cons (.agg (.cons (.agg (.cons .nilfz (.cons (.pur rfl) .nil))) (.cons .nilfz .nil))) (.cons (.pur rfl) .nil))
def HeldR(c:Ch)(r:Int)(t:T):Prop:=∃n:Nat,r=n/\Rep c.tree.nodes n t/\c.tree.nodes.length<=4611686018427387903/\t.all.length<=1000000/\∀p∈t.all,p.2.length<=70368744177664
theorem heldr_is{c:Ch}{r:Int}{n:Nat}{t:T}(h:IsT (verT c r) n t):HeldR c r t:=
 ⟨n,h.root,h.rep,Nat.le_trans h.len Xd,Nat.le_trans h.le Xd,h.vle⟩
theorem rheld_r(c:Ch)(i:Nat)(x:Lk)(hx:c.links[i]? =some x)(t:T)(h:HeldR c x.root t):PS cfg G 121 [chG c,.int .i64 (i:Int)] (psW t.all):=by
 obtain⟨n,h1,h2,h3,h4,h5⟩:=h;exact gI 10 O (λR k0=>gC 0 O (rat17_s c i x hx) (gC 0 O (rall_rep (verT c x.root) n t h1 h2 h3 h4 h5) (gQa 4 O)))
def AlikeC(a b:Ch):Prop:=a.links.length=b.links.length/\∀(i:Nat) (x y:Lk),a.links[i]? =some x->b.links[i]? =some y->SameK x y/\∃t,HeldR a x.root t/\HeldR b y.root t
theorem ralike_s(a b:Ch)(hl:a.links.length<=1000000)(hs:∀x∈a.links,x.ds.length<=1000000/\x.xs.length<=1000000/\x.rs.length<=1000000)(h:AlikeC a b):PS cfg G 54 [chG a,chG b] (.bool true):=by
 obtain⟨he,h⟩:=h;have ea:(a.links.map lkG).length=a.links.length:=List.length_map _;have eb:(b.links.map lkG).length=b.links.length:=List.length_map _;refine gI 12 O (λR k0=>gZ 0 O ea (gZ 2 O eb (gF 0 O (congrArg not (eqI_iff.2 Xd)) ?_)));refine gLo (α:=Nat) 12 (λi=>i<=a.links.length) (λi=>[(5,.int .i64 (i:Int))]) [2,3,4] (λi=>a.links.length-i) (0) rfl (Nat.zero_le _) (λi hI=>?_);refine gZ 6 O ea ?_;refine gS 3 O (λh1=>?_) (λh1=>?_)
 ·have hi:i<a.links.length:=by omega
  obtain⟨x,hx⟩:∃x,a.links[i]? =some x:=⟨_,List.getElem?_eq_getElem hi⟩
  obtain⟨y,hy⟩:∃y,b.links[i]? =some y:=⟨_,List.getElem?_eq_getElem (he▸hi)⟩
  obtain⟨hk,t,ta,tb⟩:=h i x y hx hy;have htl:t.all.length<=1000000:=by obtain⟨_,_,_,_,q,_⟩:=ta;exact q
  exact gP 9 O (zqq (i:=i) O O O O O O O (ziq lkG hx)) (gP 4 O (zqq (i:=i) O O O O O O O (ziq lkG hy)) (gC 1 O (zWq (w':=.bool true) (vSq x y (hs x (List.mem_of_getElem? hx))) (by rw[decide_eq_true (hk)])) (gC 4 O (rheld_r a i x hx t ta) (gC 2 O (rheld_r b i y hy t tb) (gC 0 O (zWq (w':=.bool true) (rpsame_s t.all t.all false false Xd) (by rw[decide_eq_true (rfl)])) (gA 10 O (i+1) (gAg 2 O (i+1) (hi) Xd)))))))
 ·exact gO 2 O (gQa 8 O)
noncomputable def bgE(l:List Pr):Int:=if okB l then 0 else 8
def vLq(c:Ch)(l:List Pr):Prop:=∃t0 r,t0.ok 0 yyq=true/\t0.all=l/\c.links=[⟨firH t0,r,[],[],[]⟩]/\HeldR c r t0
def NewQ(P:Ch->Prop)(l:List Pr):W->Prop:=λw=>∃A:Ch,(bgE l≠0->A.links=[])/\(bgE l=0->vLq A l/\P A)/\w= .tup [chG A,.int .i64 (bgE l)]
theorem bgE_t{l:List Pr}(h:okB l):bgE l=0:=if_pos h
theorem bgE_f{l:List Pr}(h:¬okB l):bgE l=8:=if_neg h
theorem newq_no(P:Ch->Prop){l:List Pr}(h:¬okB l):NewQ P l (.tup [chG noC,.int .i64 8]):=⟨noC,λ_=>rfl,λq=>absurd q (by rw[bgE_f h];decide),by rw[bgE_f h]⟩
theorem newq_ok(P:Ch->Prop){l:List Pr}(h:okB l){A:Ch}(hA:vLq A l)(hP:P A):NewQ P l (.tup [chG A,.int .i64 0]):=⟨A,λq=>absurd (bgE_t h) q,λ_=>⟨hA,hP⟩,by rw[bgE_t h]⟩
theorem cnew2_s(l:List Pr)(hb:l.length<=1000000000):PE cfg glK 124 [psW l] (NewQ (λA=>OkC A/\MayC A) l):=
 pe_res (cnew_s l false hb) (by
  rintro w hp (⟨h,rfl⟩|⟨h,t,n,t0,hA,rfl,hn,rfl⟩)
  ·exact⟨_,noc_view _ 8,rfl,newq_no _ h⟩
  ·have hk:t.nodes.length<=4611686018427387903:=Nat.le_trans hA.len Xd;refine⟨_,.pur hp,hp,newq_ok _ h ⟨t0,t.root,hA.ok,rfl,rfl,heldr_is (c:=newC t t0) (r:=t.root) hA.toIsT⟩ ⟨⟨λx hx=>?_,hk,by show(1:Nat)<=_;omega,λx hx=>?_⟩,(newC_is hA yyq).toMayC⟩⟩
   ·rw[List.mem_singleton.1 hx];exact⟨λ_ q=>(by cases q),λ_ q=>(by cases q),Nat.zero_le _,Nat.zero_le _⟩
   ·rw[List.mem_singleton.1 hx];exact Nat.zero_le _)
theorem g_put1(b e:Nat)(l:List W)(r:Int)(n:Int):yMq 50 (.agg 2 [gW b e l,.int .i64 r]) 1 (.int .i64 n)=some (.agg 2 [gW b e l,.int .i64 n]):=by cases l<;>rfl
theorem first_alike{a b:Ch}{l:List Pr}(ha:vLq a l)(hb:vLq b l):AlikeC a b:=by
 obtain⟨t,r,ok,e,hl,h⟩:=ha;obtain⟨t',r',ok',e',hl',h'⟩:=hb;obtain rfl:=T.uniq k7q ok ok' (e.trans e'.symm);refine⟨by rw[hl,hl'];rfl,λi x y hx hy=>?_⟩;rw[hl] at hx;rw[hl'] at hy;obtain rfl:i=0:=by have:=qXq hx;simp at this;omega
 cases hx;cases hy;exact⟨⟨rfl,⟨rfl,rfl⟩,rfl⟩,t,h,h'⟩
end
section
attribute [local irreducible] CoW OpW FlW Step Spec
attribute [local simp] jsq
variable {G:Nat->Option W}
def YVq(l:List Pr)(m:Nat):Prop:=m<l.length\/∃x∈l,100<x.2.length
noncomputable instance(l:List Pr)(m:Nat):Decidable (YVq l m):=Classical.propDecidable _
theorem great5_s(l:List Pr)(f:Bool)(m:Nat)(hb:l.length<=1000000000000000):PS cfg G 27 [.fz (l.map pW) 33 f,.int .i64 (m:Int)] (.bool (decide (YVq l m))):=by
 have e:(l.map pW).length=l.length:=List.length_map _;refine gI 9 O (λR k0=>gZ 0 O e ?_);refine gS 4 O (λh1=>?_) (λh1=>?_)
 ·exact gQ 7 O (by rw[decide_eq_true (show YVq l m from .inl Xd)])
 ·refine gLo (α:=Nat) 9 (λi=>i<=l.length/\∀j x,j<i->l[j]? =some x->¬100<x.2.length) (λi=>[(5,.int .i64 (i:Int))]) [0,4] (λi=>l.length-i) (0) rfl (⟨Nat.zero_le _,λj x h=>by omega⟩) (λi hI=>?_);obtain⟨g1,g2⟩:=hI;refine gZ 5 O e ?_;refine gS 3 O (λh2=>?_) (λh2=>?_)
  ·have hi:i<l.length:=by omega
   obtain⟨x,hx⟩:∃x,l[i]? =some x:=⟨_,List.getElem?_eq_getElem hi⟩
   have ex:=zeq x.2;refine gP 8 O (zqq (i:=i) O O O O O O O (ziq pW hx)) (gZ 2 O ex ?_);refine gS 3 O (λh3=>?_) (λh3=>?_)
   ·exact gO 8 O (gQ 2 O (by rw[decide_eq_true (show YVq l m from .inr ⟨x,List.mem_of_getElem? hx,by omega⟩)]))
   ·exact gA 5 O (i+1) (gAg 2 O (i+1) (⟨hi,λj y hj hy=>by rcases Nat.lt_succ_iff_lt_or_eq.1 hj with q|rfl;exact g2 j y q hy;have:=Option.some.inj (hx.symm.trans hy);subst this;omega⟩) Xd)
  ·have no:¬YVq l m:=by
    rintro(q|⟨x,hx,q⟩)
    ·omega
    ·obtain⟨j,hj⟩:=List.getElem?_of_mem hx;exact g2 j x Yx hj q
   exact gO 2 O (gQ 8 O (by rw[decide_eq_false no]))
theorem fit_pr{w:W}(h:Fit (.st 33 [.arr 32 1 (.int .u8),.sl 1 1 (.int .u8)]) w):∃p:Pr,w=pW p/\True:=by
 obtain⟨l,rfl,w1,l1,rfl,h1,w2,l2,rfl,h2,rfl⟩:=h;obtain⟨k,rfl⟩:=fit_dig h1;obtain⟨v,rfl,_⟩:=fit_bW h2;exact⟨(k,v),rfl,trivial⟩
end
section
attribute [local irreducible] CoW OpW FlW Step Spec
def MayV(v:Vw):Prop:=MayC v.ch/\(0<=v.final/\v.final<(v.ch.links.length:Int)/\0<=v.number/\v.number<=1073741823)
noncomputable instance(v:Vw):Decidable (MayV v):=Classical.propDecidable _
noncomputable def noVw:W:=.agg 6 [.int .i64 0,.bool false,.int .i64 0,noCh]
def InV(v:Vw)(h:Int):Prop:=v.final<=h/\h<(v.ch.links.length:Int)
noncomputable instance(v:Vw)(h:Int):Decidable (InV v h):=Classical.propDecidable _
abbrev Bd:=List Depo×List Tx
noncomputable def bdW(b:Bd):W:=bodW b.1 b.2 false false
@[simp] theorem bdW_pur(b:Bd):purW (bdW b)=true:=bodW_pur _ _ _ _
@[simp] theorem bds_pur(l:List Bd):purL (l.map bdW)=true:=z3q bdW_pur l
structure CanRoll(v:Vw)(h:Int):Prop where
 may:MayV v
 num:v.number≠1073741823
 is:InV v h
noncomputable instance(v:Vw)(h:Int):Decidable (CanRoll v h):=Classical.propDecidable _
def T.road:T->Nat->Dig->List T
 |.fork l r,d,k=>if bitN k d=0 then r::l.road (d+1) k else l::r.road (d+1) k
 |_,_,_=>[]
def T.tail:T->Nat->Dig->T
 |.fork l r,d,k=>if bitN k d=0 then l.tail (d+1) k else r.tail (d+1) k
 |t,_,_=>t
noncomputable def sdW(t:T):W:=dW (sumD t)
@[simp] theorem sides_pur(l:List T):purL (l.map sdW)=true:=z3q (λt=>dW_pur _) l
noncomputable def endW:T->W
 |.leaf x v=>nW ⟨true,x,v,0,0⟩
 |_=>nW ⟨false,yyq,[],0,0⟩
noncomputable def prG(k:Dig)(e:Int)(o:Dig)(v s:W):W:=.agg 67 [dW k,.int .u8 e,dW o,v,s]
noncomputable def sdsW(t0:T)(k:Dig):W:=.fz ((t0.road 0 k).map sdW) 32 false
@[simp] theorem sdsW_pur(t0:T)(k:Dig):purW (sdsW t0 k)=true:=sides_pur _
@[simp] theorem endW_pur(t:T):purW (endW t)=true:=by cases t<;>simp[endW]
noncomputable def proofW(t0:T)(k:Dig):W:=match t0.tail 0 k with
 |.leaf x v=>if x=k then prG k 1 yyq (bW v) (sdsW t0 k) else prG k 2 x (bW v) (sdsW t0 k)
 |_=>prG k 0 yyq (bW []) (sdsW t0 k)
theorem rtop18_s(v:Vw)(hl:v.ch.links.length<=4611686018427387903):PS cfg glK 49 [vwG v] (.int .i64 ((v.ch.links.length:Int) -1)):=by
 have e:(v.ch.links.map lkG).length=v.ch.links.length:=List.length_map _;exact gI 11 O (λR k0=>gZ 0 O e (gWr 0 O (gQa 4 O)))
theorem rvmay_s(v:Vw)(hc:OkC v.ch):PS cfg glK 17 [vwG v] (.bool (decide (MayV v))):=by
 have hl:=hc.len;by_cases hm:MayC v.ch
 ·skip
  refine gI 10 O (λR k0=>gC 0 O (zWq (w':=.bool true) (rcmay_s v.ch hc) (by rw[decide_eq_true (hm)])) ?_);refine gD 3 O (λh1=>?_) (λh1=>?_)
  ·refine gC 5 O (rtop18_s v hl) ?_;refine gD 0 O (λh2=>?_) (λh2=>?_)
   ·refine gD 4 O (λh3=>?_) (λh3=>?_)
    ·exact gU 4 O (gQ 5 O (congrArg W.bool (decide_eq_decide.2 ⟨λq=>⟨hm,by omega,by omega,by omega,q⟩,λq=>q.2.2.2.2⟩)))
    ·exact gQ 10 O (ygq λq=>by have:=q.2;omega)
   ·exact gQ 15 O (ygq λq=>by have:=q.2;omega)
  ·exact gQ 22 O (ygq λq=>by have:=q.2;omega)
 ·skip
  exact gI 10 O (λR k0=>gC 0 O (zWq (w':=.bool false) (rcmay_s v.ch hc) (by rw[decide_eq_false (hm)])) (gQ 26 O (ygq λq=>hm q.1)))
end
section
theorem eq_two{C:Cfg}{t e:TypeId}{i j:TyI}(ht:C.ty t=some i)(hi:i.d= .arr 2 e)(he:C.ty e=some j)(hj:j.d= .int .i64)(hs:j.size=1)(hg:j.agg=false)(a b c d:Int)(f:Nat):eqW C (f+50) t (.arr 2 1 [.int .i64 a,.int .i64 b]) (.arr 2 1 [.int .i64 c,.int .i64 d])=some (decide (a=c/\b=d)):=by
 have e0:eqW C (f+48) e (.int .i64 a) (.int .i64 c)=some (decide (a=c)):=qqq he hj;have e1:eqW C (f+47) e (.int .i64 b) (.int .i64 d)=some (decide (b=d)):=qqq he hj;have g0:∀x y:Int,zVq 50 (.arr 2 1 [.int .i64 x,.int .i64 y]) (0*1) 1 false=some (.int .i64 x):=λ_ _=>rfl
 have g1:∀x y:Int,zVq 50 (.arr 2 1 [.int .i64 x,.int .i64 y]) ((0+1)*1) 1 false=some (.int .i64 y):=λ_ _=>rfl
 rw[show f+50=(f+49)+1 from rfl];simp only[eqW,ht,hi,he];show ZKq C (f+48+1) e j 2 0 _ _=_;simp only[ZKq,hs,hg,g0,e0];by_cases q:a=c
 ·rw[decide_eq_true q];simp only[g1,e1];by_cases r:b=d
  ·rw[decide_eq_true r];simp[q,r]
  ·rw[decide_eq_false r];simp[q,r]
 ·rw[decide_eq_false q];simp[q]
attribute [local irreducible] CoW OpW FlW Step Spec
variable {G:Nat->Option W}
theorem nds_pur2(l:List Node):purL (l.map nW)=true:=z3q (λx=>by simp) l
attribute [local simp] nds_pur2
theorem nd_eq{a b:Node}:(a.leaf=b.leaf/\a.key=b.key/\a.val=b.val/\a.left=b.left/\a.right=b.right)↔a=b:=by
 constructor
 ·rintro⟨h1,h2,h3,h4,h5⟩;cases a;cases b
  simp only at h1 h2 h3 h4 h5;subst h1;subst h2;subst h3;subst h4;subst h5;rfl
 ·rintro rfl;exact⟨rfl,rfl,rfl,rfl,rfl⟩
noncomputable instance(a b:Node):Decidable (a=b):=Classical.propDecidable _
theorem tsame1_s(a b:Node)(hl:a.val.length<=1000000000):PS cfg G 295 [nW a,nW b] (.bool (decide (a=b))):=by
 by_cases h1:a.leaf=b.leaf
 ·by_cases h2:a.key=b.key
  ·by_cases h3:a.val=b.val
   ·skip
    refine gI 13 O (λR k0=>?_);refine gV (w':=.bool true) 0 O (by rw[h1];cases b.leaf<;>rfl) ?_;exact zbq 5 O (vDq (w':=.bool true) rfl (yaq O O O O (ywq O O O O O O a.key b.key 250)) (by rw[decide_eq_true h2]) (ykq 6 O (gC 0 O (zWq (w':=.bool true) (seqb_s a.val b.val false false hl) (by rw[decide_eq_true (h3)])) (gC 3 O (jJq a) (gC 1 O (jJq b) (vDq (w':=.bool (decide (a.left=b.left/\a.right=b.right))) rfl (yaq O O O O (eq_two O O O O O O a.left a.right b.left b.right 250)) O (ykq 5 O (gQ 0 O (dec_c ⟨λq=>nd_eq.1 ⟨h1,h2,h3,q⟩,λq=>(nd_eq.2 q).2.2.2⟩)))))))))
   ·skip
    refine gI 13 O (λR k0=>?_);refine gV (w':=.bool true) 0 O (by rw[h1];cases b.leaf<;>rfl) ?_;exact zbq 5 O (vDq (w':=.bool true) rfl (yaq O O O O (ywq O O O O O O a.key b.key 250)) (by rw[decide_eq_true h2]) (ykq 6 O (gC 0 O (zWq (w':=.bool false) (seqb_s a.val b.val false false hl) (by rw[decide_eq_false (h3)])) (gQ 12 O (ygq λq=>h3 Yq)))))
  ·skip
   refine gI 13 O (λR k0=>?_);refine gV (w':=.bool true) 0 O (by rw[h1];cases b.leaf<;>rfl) ?_;exact zbq 5 O (vDq (w':=.bool false) rfl (yaq O O O O (ywq O O O O O O a.key b.key 250)) (by rw[decide_eq_false h2]) (ykq 19 O (gQ 0 O (ygq λq=>h2 Yq))))
 ·skip
  refine gI 13 O (λR k0=>?_);refine gV (w':=.bool false) 0 O (by revert h1;cases a.leaf<;>cases b.leaf<;>intro h1<;>first|rfl|exact absurd rfl h1) ?_;exact gQ 25 O (ygq λq=>h1 Yq)
theorem seqn_s(a b:List Node)(f g:Bool)(hb:a.length<=1000000000)(hl:∀x∈a,x.val.length<=1000000000):PS cfg G 294 [.fz (a.map nW) 36 f,.fz (b.map nW) 36 g,.fn 295 [] []] (.bool (decide (a=b))):=by
 have ea:(a.map nW).length=a.length:=List.length_map _;have eb:(b.map nW).length=b.length:=List.length_map _;refine gI 9 O (λR k0=>gZ 0 O ea (gZ 1 O eb ?_));refine gS 3 O (λh1=>?_) (λh1=>?_)
 ·exact gQ 7 O Yb
 ·refine gZ 6 O ea ?_;refine gLo (α:=Nat) 4 (λi=>i<=a.length/\a.take i=b.take i) (λi=>[(17,.int .i64 (i:Int))]) [1,2,6,15,16] (λi=>a.length-i) (0) rfl (⟨Nat.zero_le _,rfl⟩) (λi hI=>?_);obtain⟨g1,g2⟩:=hI;refine gS 6 O (λh2=>?_) (λh2=>?_)
  ·obtain⟨x,hx⟩:∃x,a[i]? =some x:=⟨_,List.getElem?_eq_getElem Xd⟩
   obtain⟨y,hy⟩:∃y,b[i]? =some y:=⟨_,List.getElem?_eq_getElem Xd⟩
   refine gP 7 O (zqq (i:=i) O O O O O O O (ziq nW hx)) (gP 10 O (zqq (i:=i) O O O O O O O (ziq nW hy)) (gC 10 O (tsame1_s x y (hl x (List.mem_of_getElem? hx))) ?_));refine gS 3 O (λh3=>?_) (λh3=>?_)
   ·exact gO 8 O (gQ 2 O (by rw[decide_eq_false (Ztq hx hy (by simpa using h3))]))
   ·exact gA 4 O (i+1) (gAg 2 O (i+1) (⟨by omega,quq g2 hx hy (by simpa using h3)⟩) Xd)
  ·exact gO 2 O (gQ 8 O Ye)
theorem tsame_s(a b:Tree)(hb:a.nodes.length<=1000000000)(hl:∀x∈a.nodes,x.val.length<=1000000000):PS cfg G 234 [tW a,tW b] (.bool (decide (a=b))):=by
 by_cases h:a.root=b.root
 ·skip
  exact gI 13 O (λR k0=>gT 0 O (eqI_iff.2 (h)) (gC 5 O (seqn_s a.nodes b.nodes false false hb hl) (gQ 5 O (dec_c ⟨λq=>by cases a;cases b;simp only at h q;rw[h,q],λq=>by rw[q]⟩))))
 ·skip
  exact gI 13 O (λR k0=>gF 0 O (eqI_not.2 (h)) (gQ 11 O (ygq λq=>h Yq)))
end
section
attribute [local irreducible] CoW OpW FlW Step Spec
attribute [local simp] jsq
variable {G:Nat->Option W}
theorem lk_eq{a b:Lk}:(a.hdr=b.hdr/\a.root=b.root/\a.ds=b.ds/\a.xs=b.xs/\a.rs=b.rs)↔a=b:=by
 constructor
 ·rintro⟨h1,h2,h3,h4,h5⟩;exact lk_same.1 ⟨⟨h1,⟨h3,h4⟩,h5⟩,h2⟩
 ·rintro rfl;exact⟨rfl,rfl,rfl,rfl,rfl⟩
noncomputable instance(a b:Lk):Decidable (a=b):=Classical.propDecidable _
theorem csame1_s(a b:Lk)(hl:a.ds.length<=1000000/\a.xs.length<=1000000/\a.rs.length<=1000000):PS cfg G 236 [lkG a,lkG b] (.bool (decide (a=b))):=by
 by_cases h1:a.hdr=b.hdr
 ·by_cases h2:a.root=b.root
  ·by_cases h3:a.ds=b.ds
   ·by_cases h4:a.xs=b.xs
    ·skip
     exact gI 13 O (λR k0=>xfq (w':=.bool true) rfl (yaq O O O O (eq_hd a.hdr b.hdr)) Qq (zpq 5 O (gT 0 O (eqI_iff.2 (h2)) (gC 8 O (zWq (w':=.bool true) (seqd_s a.ds b.ds false false Xd) (by rw[decide_eq_true (h3)])) (gC 8 O (zWq (w':=.bool true) (seqx_s a.xs b.xs false false Xd) (by rw[decide_eq_true (h4)])) (gC 6 O (seqr_s a.rs b.rs false false Xd) (gQ 5 O (dec_c ⟨λq=>lk_eq.1 ⟨h1,h2,h3,h4,q⟩,λq=>(lk_eq.2 q).2.2.2.2⟩))))))))
    ·skip
     exact gI 13 O (λR k0=>xfq (w':=.bool true) rfl (yaq O O O O (eq_hd a.hdr b.hdr)) Qq (zpq 5 O (gT 0 O (eqI_iff.2 (h2)) (gC 8 O (zWq (w':=.bool true) (seqd_s a.ds b.ds false false Xd) (by rw[decide_eq_true (h3)])) (gC 8 O (zWq (w':=.bool false) (seqx_s a.xs b.xs false false Xd) (by rw[decide_eq_false (h4)])) (gQ 12 O (ygq λq=>h4 Yq)))))))
   ·skip
    exact gI 13 O (λR k0=>xfq (w':=.bool true) rfl (yaq O O O O (eq_hd a.hdr b.hdr)) Qq (zpq 5 O (gT 0 O (eqI_iff.2 (h2)) (gC 8 O (zWq (w':=.bool false) (seqd_s a.ds b.ds false false Xd) (by rw[decide_eq_false (h3)])) (gQ 21 O (ygq λq=>h3 Yq))))))
  ·skip
   exact gI 13 O (λR k0=>xfq (w':=.bool true) rfl (yaq O O O O (eq_hd a.hdr b.hdr)) Qq (zpq 5 O (gF 0 O (eqI_not.2 (h2)) (gQ 30 O (ygq λq=>h2 Yq)))))
 ·skip
  exact gI 13 O (λR k0=>xfq (w':=.bool false) rfl (yaq O O O O (eq_hd a.hdr b.hdr)) (by rw[decide_eq_false h1]) (zpq 36 O (gQ 0 O (ygq λq=>h1 Yq))))
theorem seql_s(a b:List Lk)(f g:Bool)(hb:a.length<=1000000000)(hl:∀x∈a,x.ds.length<=1000000/\x.xs.length<=1000000/\x.rs.length<=1000000):PS cfg G 235 [.fz (a.map lkG) 102 f,.fz (b.map lkG) 102 g,.fn 236 [] []] (.bool (decide (a=b))):=by
 have ea:(a.map lkG).length=a.length:=List.length_map _;have eb:(b.map lkG).length=b.length:=List.length_map _;refine gI 9 O (λR k0=>gZ 0 O ea (gZ 1 O eb ?_));refine gS 3 O (λh1=>?_) (λh1=>?_)
 ·exact gQ 7 O Yb
 ·refine gZ 6 O ea ?_;refine gLo (α:=Nat) 4 (λi=>i<=a.length/\a.take i=b.take i) (λi=>[(17,.int .i64 (i:Int))]) [1,2,6,15,16] (λi=>a.length-i) (0) rfl (⟨Nat.zero_le _,rfl⟩) (λi hI=>?_);obtain⟨g1,g2⟩:=hI;refine gS 6 O (λh2=>?_) (λh2=>?_)
  ·obtain⟨x,hx⟩:∃x,a[i]? =some x:=⟨_,List.getElem?_eq_getElem Xd⟩
   obtain⟨y,hy⟩:∃y,b[i]? =some y:=⟨_,List.getElem?_eq_getElem Xd⟩
   refine gP 7 O (zqq (i:=i) O O O O O O O (ziq lkG hx)) (gP 10 O (zqq (i:=i) O O O O O O O (ziq lkG hy)) (gC 10 O (csame1_s x y (hl x (List.mem_of_getElem? hx))) ?_));refine gS 3 O (λh3=>?_) (λh3=>?_)
   ·exact gO 8 O (gQ 2 O (by rw[decide_eq_false (Ztq hx hy (by simpa using h3))]))
   ·exact gA 4 O (i+1) (gAg 2 O (i+1) (⟨by omega,quq g2 hx hy (by simpa using h3)⟩) Xd)
  ·exact gO 2 O (gQ 8 O Ye)
theorem csame_s(a b:Ch)(ha:SmallC a)(hv:∀x∈a.tree.nodes,x.val.length<=1000000000):PS cfg G 163 [chG a,chG b] (.bool (decide (a=b))):=by
 have h1:=ha.nodes;have h2:=ha.len;by_cases h:a.tree=b.tree
 ·skip
  exact gI 13 O (λR k0=>gC 0 O (zWq (w':=.bool true) (tsame_s a.tree b.tree Xd hv) (by rw[decide_eq_true (h)])) (gC 5 O (seql_s a.links b.links false false Xd ha.link) (gQ 5 O (dec_c ⟨λq=>by cases a;cases b;simp only at h q;rw[h,q],λq=>by rw[q]⟩))))
 ·skip
  exact gI 13 O (λR k0=>gC 0 O (zWq (w':=.bool false) (tsame_s a.tree b.tree Xd hv) (by rw[decide_eq_false (h)])) (gQ 11 O (ygq λq=>h Yq)))
end
section
attribute [local irreducible] CoW OpW FlW Step Spec
@[simp] theorem proofW_pur(t0:T)(k:Dig):purW (proofW t0 k)=true:=by
 unfold proofW prG;split
 ·split<;>simp[purW,purL]
 ·simp[purW,purL]
noncomputable def prZ:W:=prG yyq 0 yyq (bW []) (.fz [] 32 false)
theorem prZ_view{blk:Nat->Option W}:View blk (.agg 67 [.arr 32 1 (List.replicate 32 (.int .u8 (.ofNat 0))),.int .u8 0,.arr 32 1 (List.replicate 32 (.int .u8 (.ofNat 0))),.nils,.nils]) prZ:=.agg (.cons y4q (.cons (.pur rfl) (.cons y4q (.cons .nilfz (.cons .nilfz .nil)))))
def TolV(v:Vw)(win h:Int):Prop:=0<=h/\h<(v.ch.links.length:Int)/\(v.ch.links.length:Int) -1-h<win
noncomputable instance(v:Vw)(win h:Int):Decidable (TolV v win h):=Classical.propDecidable _
noncomputable instance:DecidableEq Vw:=λa b=>Classical.propDecidable _
theorem vw_eq{a1 b1:Int}{a2 b2:Bool}{a3 b3:Int}{a4 b4:Ch}(h1:a1=b1)(h2:a2=b2)(h3:a3=b3):((⟨a1,a2,a3,a4⟩:Vw)=⟨b1,b2,b3,b4⟩)↔a4=b4:=⟨λq=>by injection q,λq=>by rw[h1,h2,h3,q]⟩
theorem vsame_s(a b:Vw)(ha:SmallC a.ch)(hv:∀x∈a.ch.tree.nodes,x.val.length<=1000000000):PS cfg glK 85 [vwG a,vwG b] (.bool (decide (a=b))):=by
 have hs:=csame_s (G:=glK) a.ch b.ch ha hv;obtain⟨a1,a2,a3,a4⟩:=a;obtain⟨b1,b2,b3,b4⟩:=b;refine gI 13 O (λR k0=>?_);refine gD 0 O (λh1=>?_) (λh1=>?_)
 ·refine gD 5 O (λh2=>?_) (λh2=>?_)
  ·refine gD 6 O (λh3=>?_) (λh3=>?_)
   ·refine gC 6 O (hs) ?_;first|exact gQ 5 O (congrArg W.bool (decide_eq_decide.2 (vw_eq h1 h2 h3).symm))|exact gQ 5 O (ygq λq=>h3 (congrArg Vw.final q))|exact gQ 5 O (ygq λq=>h2 (congrArg Vw.down q))|exact gQ 5 O (ygq λq=>h1 (congrArg Vw.number q))
   ·first|exact gQ 12 O (congrArg W.bool (decide_eq_decide.2 (vw_eq h1 h2 h3).symm))|exact gQ 12 O (ygq λq=>h3 (congrArg Vw.final q))|exact gQ 12 O (ygq λq=>h2 (congrArg Vw.down q))|exact gQ 12 O (ygq λq=>h1 (congrArg Vw.number q))
  ·first|exact gQ 19 O (congrArg W.bool (decide_eq_decide.2 (vw_eq h1 h2 h3).symm))|exact gQ 19 O (ygq λq=>h3 (congrArg Vw.final q))|exact gQ 19 O (ygq λq=>h2 (congrArg Vw.down q))|exact gQ 19 O (ygq λq=>h1 (congrArg Vw.number q))
 ·first|exact gQ 25 O (congrArg W.bool (decide_eq_decide.2 (vw_eq h1 h2 h3).symm))|exact gQ 25 O (ygq λq=>h3 (congrArg Vw.final q))|exact gQ 25 O (ygq λq=>h2 (congrArg Vw.down q))|exact gQ 25 O (ygq λq=>h1 (congrArg Vw.number q))
theorem rvsame_s(a b:Vw)(ha:SmallC a.ch)(hb:SmallC b.ch):PS cfg glK 19 [vwG a,vwG b] (.bool (decide (a=b))):=by
 have hs:=rcsame_s (G:=glK) a.ch b.ch ha hb;obtain⟨a1,a2,a3,a4⟩:=a;obtain⟨b1,b2,b3,b4⟩:=b;refine gI 13 O (λR k0=>?_);refine gD 0 O (λh1=>?_) (λh1=>?_)
 ·refine gD 5 O (λh2=>?_) (λh2=>?_)
  ·refine gD 6 O (λh3=>?_) (λh3=>?_)
   ·refine gC 6 O (hs) ?_;first|exact gQ 5 O (congrArg W.bool (decide_eq_decide.2 (vw_eq h1 h2 h3).symm))|exact gQ 5 O (ygq λq=>h3 (congrArg Vw.final q))|exact gQ 5 O (ygq λq=>h2 (congrArg Vw.down q))|exact gQ 5 O (ygq λq=>h1 (congrArg Vw.number q))
   ·first|exact gQ 12 O (congrArg W.bool (decide_eq_decide.2 (vw_eq h1 h2 h3).symm))|exact gQ 12 O (ygq λq=>h3 (congrArg Vw.final q))|exact gQ 12 O (ygq λq=>h2 (congrArg Vw.down q))|exact gQ 12 O (ygq λq=>h1 (congrArg Vw.number q))
  ·first|exact gQ 19 O (congrArg W.bool (decide_eq_decide.2 (vw_eq h1 h2 h3).symm))|exact gQ 19 O (ygq λq=>h3 (congrArg Vw.final q))|exact gQ 19 O (ygq λq=>h2 (congrArg Vw.down q))|exact gQ 19 O (ygq λq=>h1 (congrArg Vw.number q))
 ·first|exact gQ 25 O (congrArg W.bool (decide_eq_decide.2 (vw_eq h1 h2 h3).symm))|exact gQ 25 O (ygq λq=>h3 (congrArg Vw.final q))|exact gQ 25 O (ygq λq=>h2 (congrArg Vw.down q))|exact gQ 25 O (ygq λq=>h1 (congrArg Vw.number q))
end
section
attribute [local irreducible] CoW OpW FlW Step Spec
variable {G:Nat->Option W}
noncomputable def noV:Vw:=⟨0,false,0,noC⟩
theorem nov_view(μ:Nat->Option W):View μ noVw (vwG noV):=.agg (.cons (.pur rfl) (.cons (.pur rfl) (.cons (.pur rfl) (.cons (.agg (.cons (.agg (.cons .nilfz (.cons (.pur rfl) .nil))) (.cons .nilfz .nil))) .nil))))
end
section
attribute [local irreducible] CoW OpW FlW Step Spec
theorem rvalike_s(a b:Vw)(h:a.number=b.number/\a.down=b.down/\a.final=b.final)(hl:a.ch.links.length<=1000000)(hs:∀x∈a.ch.links,x.ds.length<=1000000/\x.xs.length<=1000000/\x.rs.length<=1000000)(hA:AlikeC a.ch b.ch):PS cfg glK 18 [vwG a,vwG b] (.bool true):=by
 obtain⟨h1,h2,h3⟩:=h;obtain⟨bn,bd,bf,bc⟩:=b;simp only at h1 h2 h3 hA;subst h1 h2 h3;refine gI 13 O (λR k0=>gT 0 O (eqI_iff.2 (rfl)) ?_);refine gT 5 O (by cases a.down<;>rfl) ?_;exact gT 6 O (eqI_iff.2 (rfl)) (gC 6 O (ralike_s a.ch bc hl hs hA) (gQa 5 O))
end
section
attribute [local irreducible] CoW OpW FlW Step Spec
attribute [local simp] jsq
variable {G:Nat->Option W}
theorem ctwin2_s(c:Ch)(hs:SmallC c):PS cfg G 108 [chG c] (chG c):=by
 exact gI 10 O (λR k0=>gC 0 O (twinp_s c.tree hs.vl hs.vals) (gC 2 O (((ctrn_s c.links false hs.len hs.link).ps Xl (Qtq _))) (gQa 5 O)))
attribute [local simp] PW.pur
noncomputable def trJ(A:PW)(r:Int):W:=.agg 2 [A.w,.int .i64 r]
noncomputable def kcW(A B:PW)(r:Int):W:=.agg 3 [trJ A r,B.w]
@[simp] theorem trJ_pur(A:PW)(r:Int):purW (trJ A r)=true:=by simp[trJ,purW,purL]
@[simp] theorem kcW_pur(A B:PW)(r:Int):purW (kcW A B r)=true:=by simp[kcW,trJ,purW,purL]
end
section
attribute [local irreducible] CoW OpW FlW Step Spec
theorem rsdig_s(ds:List Dig)(f g:Bool)(hl:ds.length<=1000000):PS cfg glK 327 [.fz (ds.map dW) 32 f,.fz (ds.map dW) 32 g] (.bool true):=by
 have e:(ds.map dW).length=ds.length:=List.length_map _;refine gI 9 O (λR k0=>gZ 0 O e (gZ 1 O e (gF 0 O (congrArg not (eqI_iff.2 (rfl))) ?_)));refine gLo (α:=Nat) 12 (λi=>i<=ds.length) (λi=>[(5,.int .i64 (i:Int))]) [0,1,4] (λi=>ds.length-i) (0) rfl (Nat.zero_le _) (λi hI=>?_);refine gZ 5 O e ?_;refine gS 3 O (λh1=>?_) (λh1=>?_)
 ·obtain⟨d,hd⟩:∃d,ds[i]? =some d:=⟨_,List.getElem?_eq_getElem Xd⟩
  refine gP 8 O (zqq (i:=i) O O O O O O O (ziq dW hd)) (gP 3 O (zqq (i:=i) O O O O O O O (ziq dW hd)) (gUe 1 O (q4q O O O O (ywq O O O O O O _ _ 250)) (qmq zZq) ?_));refine gS 2 O (λh2=>?_) (λh2=>?_)
  ·exfalso;exact(by assumption:¬d=d) rfl
  ·exact gA 5 O (i+1) (gAg 2 O (i+1) Xd Xd)
 ·exact gO 2 O (gQa 8 O)
theorem rpsm_s(k:Dig)(e:Int)(o:Dig)(l:List UInt8)(ds:List Dig)(hl:ds.length<=1000000):PS cfg glK 292 [prG k e o (bW l) (.fz (ds.map dW) 32 false),prG k e o (bW l) (.fz (ds.map dW) 32 false)] (.bool true):=by
 exact gI 13 O (λR k0=>xfq (w':=.bool true) rfl (yaq O O O O (ywq O O O O O O k k 250)) Ya (zpq 5 O (gT 0 O (eqI_iff.2 (rfl)) (zbq 6 O (xfq (w':=.bool true) rfl (yaq O O O O (ywq O O O O O O o o 250)) Ya (zpq 6 O (gC 0 O (zWq (w':=.bool true) (same_s l l false false) (by rw[decide_eq_true (rfl)])) (gC 6 O (rsdig_s ds false false hl) (gQa 5 O)))))))))
structure PrV where
 (k:Dig) (e:Int) (o:Dig) (l:List UInt8) (ds:List Dig)
 hl:ds.length<=1000000
noncomputable def PrV.w(p:PrV):W:=prG p.k p.e p.o (bW p.l) (.fz (p.ds.map dW) 32 false)
@[simp] theorem PrV.pur(p:PrV):purW p.w=true:=by simp[PrV.w,prG,purW,purL]
theorem PrV.same(p:PrV):PS cfg glK 292 [p.w,p.w] (.bool true):=rpsm_s p.k p.e p.o p.l p.ds p.hl
noncomputable def prZV:PrV:=⟨yyq,0,yyq,[],[],Nat.zero_le _⟩
theorem vtwin2_s(v:Vw)(hs:SmallC v.ch):PS cfg glK 95 [vwG v] (vwG v):=by
 exact gI 10 O (λR k0=>gC 0 O (ctwin2_s v.ch hs) (gQa 11 O))
structure Ru where
 (shards:Int) (cap:Int) (block:Int) (window:Int) (tap:Int) (subs:Int) (box:Dig)
noncomputable def ruG(r:Ru):W:=.agg 38 [.int .i64 r.shards,.int .i64 r.cap,.int .i64 r.block,.int .i64 r.window,.int .i64 r.tap,.int .i64 r.subs,dW r.box]
@[simp] theorem jIq(r:Ru):purW (ruG r)=true:=by simp[ruG]
noncomputable def z32:W:=.arr 32 1 (List.replicate 32 (.int .u8 (.ofNat 0)))
noncomputable def zIt:W:=.agg 101 [.bool false,.agg 100 [.int .i64 0,.bool false,.agg 98 [.int .i64 0,z32,z32,z32,.int .i64 0]]]
theorem prZV_view{blk:Nat->Option W}:View blk (.agg 67 [.arr 32 1 (List.replicate 32 (.int .u8 (.ofNat 0))),.int .u8 0,.arr 32 1 (List.replicate 32 (.int .u8 (.ofNat 0))),.nils,.nils]) prZV.w:=prZ_view
structure Aq where
 (kind:Int) (tx:Tx) (key:Dig) (height:Int) (sub:Int)
noncomputable def aqW(q:Aq):W:=.agg 134 [.int .u8 q.kind,txW q.tx,dW q.key,.int .i64 q.height,.int .i64 q.sub]
@[simp] theorem aqW_pur(q:Aq):purW (aqW q)=true:=by simp[aqW,purW,purL]
end
section
attribute [local irreducible] CoW OpW FlW Step Spec
variable {G:Nat->Option W}
def okU(r:Ru):Prop:=(1<=r.shards/\r.shards<=8)/\(1<=r.cap/\r.cap<=64)/\(1<=r.block/\r.block<=16)/\(1<=r.window/\r.window<=64)/\(1<=r.tap/\r.tap<=64)/\(1<=r.subs/\r.subs<=16)
noncomputable instance(r:Ru):Decidable (okU r):=Classical.propDecidable _
theorem jCq(n m:Int):PS cfg G 223 [.int .i64 n,.int .i64 m] (.bool (decide (1<=n/\n<=m))):=by
 refine gI 8 O (λR k0=>?_);refine gD 0 O (λh1=>?_) (λh1=>?_)
 ·refine gU 3 O ?_;exact gQ 5 O Xx
 ·exact gQ 9 O Xx
theorem vbq(n m:Int):PS cfg G 224 [.int .i64 n,.int .i64 m] (.bool (decide (1<=n/\n<=m))):=by
 refine gI 8 O (λR k0=>?_);refine gD 0 O (λh1=>?_) (λh1=>?_)
 ·refine gU 3 O ?_;exact gQ 5 O Xx
 ·exact gQ 9 O Xx
theorem rules_s(r:Ru):PS cfg G 146 [ruG r] (.int .i64 (if okU r then 0 else 8)):=by
 refine gI 11 O (λR k0=>gC 0 O (jCq _ _) ?_);refine gB 0 O (λh1=>?_) (λh1=>?_)
 ·refine gC 4 O (jCq _ _) ?_;refine gB 0 O (λh2=>?_) (λh2=>?_)
  ·refine gC 5 O (jCq _ _) ?_;refine gB 0 O (λh3=>?_) (λh3=>?_)
   ·refine gC 5 O (jCq _ _) ?_;refine gB 0 O (λh4=>?_) (λh4=>?_)
    ·refine gC 5 O (jCq _ _) ?_;refine gB 0 O (λh5=>?_) (λh5=>?_)
     ·refine gC 5 O (jCq _ _) ?_;refine gS 4 O (λh6=>?_) (λh6=>?_)
      ·exact gQ 7 O (by(try simp at h6);first|rw[if_pos (show okU r by unfold okU;omega)]|rw[if_neg (show¬okU r by unfold okU;omega)])
      ·exact gQ 8 O (by(try simp at h6);first|rw[if_pos (show okU r by unfold okU;omega)]|rw[if_neg (show¬okU r by unfold okU;omega)])
     ·exact gQ 18 O (by(try simp at h6);first|rw[if_pos (show okU r by unfold okU;omega)]|rw[if_neg (show¬okU r by unfold okU;omega)])
    ·exact gQ 24 O (by(try simp at h6);first|rw[if_pos (show okU r by unfold okU;omega)]|rw[if_neg (show¬okU r by unfold okU;omega)])
   ·exact gQ 30 O (by(try simp at h6);first|rw[if_pos (show okU r by unfold okU;omega)]|rw[if_neg (show¬okU r by unfold okU;omega)])
  ·exact gQ 36 O (by(try simp at h6);first|rw[if_pos (show okU r by unfold okU;omega)]|rw[if_neg (show¬okU r by unfold okU;omega)])
 ·exact gQ 41 O (by(try simp at h6);first|rw[if_pos (show okU r by unfold okU;omega)]|rw[if_neg (show¬okU r by unfold okU;omega)])
theorem Yvq(r:Ru):PS cfg G 151 [ruG r] (.bool (decide (okU r))):=by
 refine gI 10 O (λR k0=>gC 0 O (vbq _ _) ?_);refine gB 0 O (λh1=>?_) (λh1=>?_)
 ·refine gC 3 O (vbq _ _) ?_;refine gB 0 O (λh2=>?_) (λh2=>?_)
  ·refine gC 4 O (vbq _ _) ?_;refine gB 0 O (λh3=>?_) (λh3=>?_)
   ·refine gC 4 O (vbq _ _) ?_;refine gB 0 O (λh4=>?_) (λh4=>?_)
    ·refine gC 4 O (vbq _ _) ?_;refine gB 0 O (λh5=>?_) (λh5=>?_)
     ·exact gC 4 O (vbq _ _) (gQ 5 O Xm)
     ·exact gQ 10 O Xm
    ·exact gQ 15 O Xm
   ·exact gQ 20 O Xm
  ·exact gQ 25 O Xm
 ·exact gQ 29 O Xm
theorem nat_of{i:Int}(h:0<=i):natW (.int .i64 i)=some i.toNat:=by
 obtain⟨k,rfl⟩:=Int.eq_ofNat_of_zero_le h;rfl
noncomputable def shW:W:=.agg 1 [.nils]
noncomputable def shsW(k:Nat):W:=.fz (List.replicate k shW) 1 false
theorem shs_p:∀k:Nat,purL (List.replicate k shW)=true
 |0=>rfl
 |k+1=>by rw[List.replicate_succ];simp only[purL,shs_p k];rfl
@[simp] theorem kEq(k:Nat):purW (shsW k)=true:=shs_p k
theorem pool_s(n:Int)(h1:1<=n)(h8:n<=8):PS cfg glK 147 [.int .i64 n] (.tup [shsW n.toNat,.int .i64 0]):=by
 exact gIv 10 O (λR k0=>gF 0 O (ltI_not.2 Xd) (gF 2 O (ltI_not.2 Xd) (gM 9 O (kRq (l:=n.toNat) (c:=n.toNat) O O O O (nat_of Xd) (nat_of Xd) O O (Nat.le_refl _) (by show 24*n.toNat<=_;omega) Xd O O) (zbq 5 O (jZq Qs rfl (.tup (.cons (.sl (full:=false) (xs:=List.replicate n.toNat shW) rfl (shs_p _) (zkq Xl (List.length_replicate ..).symm rfl) Xi) (.cons (.pur rfl) .nil))))))))
noncomputable def hub0:W:=.agg 2 [.int .i64 0,.nils]
noncomputable def auG(r:Ru)(v:Vw)(k:Nat):W:=.agg 52 [ruG r,vwG v,shsW k,.nils,.nils,.nils,.int .u64 0,.nils,hub0]
@[simp] theorem QSq(r:Ru)(v:Vw)(k:Nat):purW (auG r v k)=true:=by simp[auG,purW,purL,hub0]
def ruZ:Ru:=⟨0,0,0,0,0,0,yyq⟩
noncomputable def noAu:W:=.agg 52 [.agg 38 [.int .i64 0,.int .i64 0,.int .i64 0,.int .i64 0,.int .i64 0,.int .i64 0,z32],noVw,.nils,.nils,.nils,.nils,.int .u64 0,.nils,hub0]
theorem ruZ_view{μ:Nat->Option W}:View μ (.agg 38 [.int .i64 0,.int .i64 0,.int .i64 0,.int .i64 0,.int .i64 0,.int .i64 0,z32]) (ruG ruZ):=.agg (.cons (.pur rfl) (.cons (.pur rfl) (.cons (.pur rfl) (.cons (.pur rfl) (.cons (.pur rfl) (.cons (.pur rfl) (.cons y4q .nil)))))))
theorem uLq{μ:Nat->Option W}(e:Int):View μ (.tup [noAu,.int .i64 e]) (.tup [auG ruZ noV 0,.int .i64 e]):=.tup (.cons (.agg (.cons ruZ_view (.cons (nov_view μ) (.cons .nilfz (.cons (.pur rfl) (.cons (.pur rfl) (.cons (.pur rfl) (.cons (.pur rfl) (.cons (.pur rfl) (.cons (.pur rfl) .nil)))))))))) (.cons (.pur rfl) .nil))
theorem upq(r:Ru)(v:Vw)(k:Nat)(e:Int):purW (.tup [auG r v k,.int .i64 e])=true:=by simp[purW,purL]
noncomputable def autE(r:Ru)(l:List Pr):Int:=if okU r then bgE l else 8
def AutQ(P:Ch->Prop)(r:Ru)(l:List Pr):W->Prop:=λw=>∃(A:Ch) (q:Ru) (k:Nat),(autE r l=0->okU r/\vLq A l/\P A/\q=r/\k=r.shards.toNat)/\w= .tup [auG q ⟨0,false,0,A⟩ k,.int .i64 (autE r l)]
theorem autE_t{r:Ru}{l:List Pr}(h:okU r):autE r l=bgE l:=if_pos h
theorem autE_f{r:Ru}{l:List Pr}(h:¬okU r):autE r l=8:=if_neg h
theorem QRq(P:Ch->Prop){r:Ru}{l:List Pr}{e:Int}(h:autE r l=e)(he:e≠0):AutQ P r l (.tup [auG ruZ noV 0,.int .i64 e]):=⟨noC,ruZ,0,λq=>absurd (h.symm.trans q) he,by rw[h];rfl⟩
theorem Z5q(r:Ru)(l:List Pr)(hb:l.length<=1000000000):PE cfg glK 72 [ruG r,psW l] (AutQ (λA=>OkC A/\MayC A) r l):=by
 by_cases hr:okU r
 ·have hr2:=hr;obtain⟨⟨q1,q2⟩,_⟩:=hr2;have he:=autE_t (l:=l) hr;refine gIe 11 O (λR k0=>gC 0 O (zWq (w':=.int .i64 0) (rules_s r) (by rw[if_pos hr])) (gF 6 O (congrArg not (eqI_iff.2 (rfl))) (gE 8 O (cnew2_s l hb) ?_)));rintro w hw ⟨A,a1,a2,rfl⟩;refine gS 15 O (λh1=>?_) (λh1=>?_)
  ·have h0:bgE l≠0:=by omega
   exact zbq 10 O (z9q (w':=.tup [auG ruZ noV 0,.int .i64 (bgE l)]) Qs rfl (uLq _) (upq _ _ _ _) (QRq _ he h0))
  ·have h0:bgE l=0:=by omega
   obtain⟨fA,pA⟩:=a2 h0;exact gC 6 O (pool_s r.shards q1 q2) (zbq 20 O (z9q (w':=.tup [auG r ⟨0,false,0,A⟩ r.shards.toNat,.int .i64 0]) Qs rfl (.pur (upq r ⟨0,false,0,A⟩ r.shards.toNat 0)) (upq _ _ _ _) ⟨A,r,_,λ_=>⟨hr,fA,pA,rfl,rfl⟩,by rw[he,h0]⟩))
 ·skip
  exact gIe 11 O (λR k0=>gC 0 O (zWq (w':=.int .i64 8) (rules_s r) (by rw[if_neg hr])) (gT 6 O (congrArg not (eqI_not.2 Xl)) (zbq 13 O (z9q (w':=.tup [auG ruZ noV 0,.int .i64 8]) Qs rfl (uLq _) (upq _ _ _ _) (QRq _ (autE_f hr) Xl)))))
abbrev Fs:=List (List UInt8)
noncomputable def flW(l:Fs):W:=.fz (l.map bW) 1 false
@[simp] theorem flW_pur(l:Fs):purW (flW l)=true:=(kYq l:purL (l.map bW)=true)
@[simp] theorem fls_pur(l:List Fs):purL (l.map flW)=true:=z3q flW_pur l
structure Wrk where
 (kind:Int) (to:Dig) (amount:Int) (height:Int)
noncomputable def wrG(x:Wrk):W:=.agg 35 [.int .u8 x.kind,dW x.to,.int .u64 x.amount,.int .i64 x.height]
@[simp] theorem wrG_pur(x:Wrk):purW (wrG x)=true:=by simp[wrG,purW,purL]
@[simp] theorem jDq(l:List Wrk):purL (l.map wrG)=true:=z3q wrG_pur l
noncomputable def frs(l:Fs):W:=.arr (l.length*1) 1 (l.map bW)
theorem ixfl_s(xs:List Fs)(f:Bool)(F:FuncId)(P:Fs->Prop) [DecidablePred P](hF:∀x∈xs,PS cfg G F [flW x] (.bool (decide (P x))))(hF0:cfg.ext F=none)(hn:xs.length<=1000000000):PE cfg G 148 [.fz (xs.map flW) 1 f,.fn F [] []] (λw=>∃i:Int,w= .int .i64 i/\((∃x∈xs,P x)↔0<=i)):=by
 refine gIe 9 O (λR k0=>gZ 0 O (List.length_map _) ?_);refine gLo (α:=Nat) 4 (λi=>i<=xs.length/\∀j x,j<i->xs[j]? =some x->¬P x) (λi=>[(8,.int .i64 (i:Int))]) [0,1,4,7] (λi=>xs.length-i) (0) rfl (⟨Nat.zero_le _,λj x h=>by omega⟩) (λi hI=>?_);obtain⟨g1,g2⟩:=hI;refine gS 6 O (λh1=>?_) (λh1=>?_)
 ·obtain⟨x,hx⟩:∃x,xs[i]? =some x:=⟨_,List.getElem?_eq_getElem Xd⟩
  refine gP 15 O (zqq (i:=i) O O O O O O O (ziq flW hx)) (zbq 1 O (Ygq O O O hF0 O O (hF x (List.mem_of_getElem? hx)) Xh Xh (zpq 2 O ?_)));refine gS 0 O (λh2=>?_) (λh2=>?_)
  ·exact gO 9 O (zbq 2 O (z9q (w':=.int .i64 (i:Int)) Qs rfl (.pur rfl) rfl ⟨_,rfl,λ_=>by omega,λ_=>⟨x,List.mem_of_getElem? hx,h2⟩⟩))
  ·exact gA 4 O (i+1) (gAg 2 O (i+1) (⟨by omega,λj y hj hy=>by rcases Nat.lt_succ_iff_lt_or_eq.1 hj with q|rfl;exact g2 j y q hy;exact Option.some.inj (hx.symm.trans hy)▸h2⟩) Xd)
 ·refine gO 2 O (zbq 8 O ?_)
  exact z9q (w':=.int .i64 (-1)) Qs rfl (.pur rfl) rfl ⟨_,rfl,λ⟨x,hx,q⟩=>by
   obtain⟨j,hj⟩:=List.getElem?_of_mem hx;exact absurd q (g2 j x Yx hj),λh=>absurd h Xl⟩
theorem ctfl_s(xs:List Fs)(f:Bool)(F:FuncId)(P:Fs->Prop) [DecidablePred P](hF:∀x∈xs,PS cfg G F [flW x] (.bool (decide (P x))))(hF0:cfg.ext F=none)(hn:xs.length<=1000000000) [Decidable (∃x∈xs,P x)]:PS cfg G 73 [.fz (xs.map flW) 1 f,.fn F [] []] (.bool (decide (∃x∈xs,P x))):=by
 refine gI 9 O (λR k0=>?_);refine gE 0 O (ixfl_s xs f F P hF hF0 hn) ?_;rintro w hw ⟨i,rfl,hi⟩;refine gU 0 O ?_;exact gQ 4 O (by rw[decide_eq_decide.2 hi])
theorem ixwr_s(xs:List Wrk)(f:Bool)(F:FuncId)(P:Wrk->Prop) [DecidablePred P](hF:∀x∈xs,PS cfg G F [wrG x] (.bool (decide (P x))))(hF0:cfg.ext F=none)(hn:xs.length<=1000000000):PE cfg G 149 [.fz (xs.map wrG) 35 f,.fn F [] []] (λw=>∃i:Int,w= .int .i64 i/\((∃x∈xs,P x)↔0<=i)):=by
 refine gIe 9 O (λR k0=>gZ 0 O (List.length_map _) ?_);refine gLo (α:=Nat) 4 (λi=>i<=xs.length/\∀j x,j<i->xs[j]? =some x->¬P x) (λi=>[(8,.int .i64 (i:Int))]) [0,1,4,7] (λi=>xs.length-i) (0) rfl (⟨Nat.zero_le _,λj x h=>by omega⟩) (λi hI=>?_);obtain⟨g1,g2⟩:=hI;refine gS 6 O (λh1=>?_) (λh1=>?_)
 ·obtain⟨x,hx⟩:∃x,xs[i]? =some x:=⟨_,List.getElem?_eq_getElem Xd⟩
  refine gP 15 O (zqq (i:=i) O O O O O O O (ziq wrG hx)) (zbq 1 O (Ygq O O O hF0 O O (hF x (List.mem_of_getElem? hx)) Xh Xh (zpq 2 O ?_)));refine gS 0 O (λh2=>?_) (λh2=>?_)
  ·exact gO 9 O (zbq 2 O (z9q (w':=.int .i64 (i:Int)) Qs rfl (.pur rfl) rfl ⟨_,rfl,λ_=>by omega,λ_=>⟨x,List.mem_of_getElem? hx,h2⟩⟩))
  ·exact gA 4 O (i+1) (gAg 2 O (i+1) (⟨by omega,λj y hj hy=>by rcases Nat.lt_succ_iff_lt_or_eq.1 hj with q|rfl;exact g2 j y q hy;exact Option.some.inj (hx.symm.trans hy)▸h2⟩) Xd)
 ·refine gO 2 O (zbq 8 O ?_)
  exact z9q (w':=.int .i64 (-1)) Qs rfl (.pur rfl) rfl ⟨_,rfl,λ⟨x,hx,q⟩=>by
   obtain⟨j,hj⟩:=List.getElem?_of_mem hx;exact absurd q (g2 j x Yx hj),λh=>absurd h Xl⟩
theorem ctwr_s(xs:List Wrk)(f:Bool)(F:FuncId)(P:Wrk->Prop) [DecidablePred P](hF:∀x∈xs,PS cfg G F [wrG x] (.bool (decide (P x))))(hF0:cfg.ext F=none)(hn:xs.length<=1000000000) [Decidable (∃x∈xs,P x)]:PS cfg G 75 [.fz (xs.map wrG) 35 f,.fn F [] []] (.bool (decide (∃x∈xs,P x))):=by
 refine gI 9 O (λR k0=>?_);refine gE 0 O (ixwr_s xs f F P hF hF0 hn) ?_;rintro w hw ⟨i,rfl,hi⟩;refine gU 0 O ?_;exact gQ 4 O (by rw[decide_eq_decide.2 hi])
theorem clw_s(l:List Wrk)(f:Bool)(hl:l.length<=1000000000):PS cfg G 77 [.fz (l.map wrG) 35 f] (.fz (l.map wrG) 35 false):=by
 have e:(l.map wrG).length=l.length:=List.length_map _;have hp:∀l:List Wrk,purL (l.map wrG)=true:=z3q wrG_pur
 refine gI 9 O (λR k0=>?_);first|refine yoq O O ?_|refine zLq rfl (jqq O O O O O (λbn hn=>?_))
 refine zpq 2 O ?_;refine gS 0 O (λh1=>?_) (λh1=>?_)
 ·cases bn with
  |false=>cases h1
  |true=>
   obtain rfl:l=[]:=List.map_eq_nil_iff.1 (hn rfl);exact ycq 7 O (y8q (fr2:=[(2,.fz [] 35 false)]) Qs ⟨⟨_,rfl,.nilfz⟩,trivial⟩ O O)
 ·cases l with
  |nil=>
   skip
   exact ycq 6 O (gM 0 O (z6q O O (joq O O O O O)) (zbq 4 O (y8q (fr2:=[(2,.fz [] 35 false)]) Qs ⟨⟨_,rfl,.sl O O O Xi⟩,trivial⟩ O O)))
  |cons c l=>
   simp only[List.length_cons] at hl e;exact ycq 6 O (gM 0 O (z6q O O (yZq (news:=(c::l).map wrG) (olds:=[]) O O O O O Xh (by show(0+((c::l).map wrG).length)*56<=_;rw[e];omega) Qd rfl (by show 0<0+(0+((c::l).map wrG).length)*35;rw[e];omega) O O)) (zbq 4 O (y8q (fr2:=[(2,.fz ((c::l).map wrG) 35 false)]) Qs ⟨⟨_,rfl,.sl rfl (hp _) (zkq Xl (Nat.zero_add _) (by rw[Nat.zero_add])) Xi⟩,trivial⟩ O O)))
theorem fclone_s(l:List (List UInt8))(f:Bool)(hl:l.length<=1000000000):qoq cfg G 150 0 [.fz (l.map bW) 1 f] [] λw hp nw=>
  (l=[]/\w= .nils/\hp=[]/\nw=0)\/(w= .sl 0 0 0 l.length 1 none/\hp=[(0,58,frs l)]/\nw=1):=by
 intro R;have e:(l.map bW).length=l.length:=List.length_map _;have hpp:purW (frs l)=true:=(z3q (λx=>by simp) l:purL (l.map bW)=true);refine gIs 9 O (λk0=>?_);first|refine yoq O O ?_|refine zLq rfl (jqq O O O O O (λbn hn=>?_))
 refine zpq 2 O ?_;refine gS 0 O (λh1=>?_) (λh1=>?_)
 ·cases bn with
  |false=>cases h1
  |true=>
   obtain rfl:l=[]:=List.map_eq_nil_iff.1 (hn rfl);exact ycq 7 O (fin Qs Ent.refl rfl ⟨rfl,.inl ⟨rfl,rfl,rfl,rfl⟩⟩)
 ·cases l with
  |nil=>
   skip
   exact ycq 6 O (gM 0 O (z6q O O (joq O O O O O)) (zbq 4 O (fin Qs Ent.refl rfl ⟨rfl,.inr ⟨rfl,rfl,rfl⟩⟩)))
  |cons c l=>
   refine ycq 6 O (gM 0 O (z6q O O (yZq (len:=0) (news:=(c::l).map bW) (olds:=[]) (k:=ti58) O O O O O Xh (by show(0+((c::l).map bW).length)*24<=_;rw[e];omega) Qd rfl (by show 0<0+(0+((c::l).map bW).length)*1;rw[e];simp only[List.length_cons];omega) O O)) (zbq 4 O ?_));refine fin Qs (yKq (b:=0) (k:=1) (fr2:=[(2,.sl 0 0 0 (c::l).length 1 none)]) (hp2:=[(0,58,frs (c::l))]) Xd Xd (by show 1<2;omega) ⟨⟨?_,rfl⟩,trivial⟩ ⟨⟨by omega,?_,zdq hpp⟩,trivial⟩ Xh) rfl ⟨rfl,.inr ⟨rfl,rfl,rfl⟩⟩
   ·show some (W.sl 1 0 0 (0+((c::l).map bW).length) 1 none)=some (W.sl 1 0 0 (c::l).length 1 none);rw[e,Nat.zero_add]
   ·rw[ztq hpp];show some (58,W.arr ((0+((c::l).map bW).length)*1) 1 ([]++(c::l).map bW))=some (58,frs (c::l));rw[e,Nat.zero_add];rfl
theorem frs_get(l:Fs){i:Nat}{x:List UInt8}(h:l[i]? =some x):zVq 50 (frs l) (0+i*1+0) 1 false=some (bW x):=
 get_in (ziq bW h) Xd Xd Xh rfl
theorem frs_put(l:Fs){i:Nat}{x:List UInt8}(h:l[i]? =some x):yMq 50 (frs l) (0+i*1+0) (bW x)=some (frs l):=by
 have h1:=ziq bW h;rw[frs,put_in (x':=bW x) h1 Xd Xd (by simp[W.isAgg,bW]) rfl,vRq h1]
theorem frames_s(l:Fs)(f:Bool)(hl:l.length<=1000000000)(hv:∀x∈l,x.length<=70368744177664):PS cfg G 78 [.fz (l.map bW) 1 f] (flW l):=by
 have hpp:purW (frs l)=true:=(kYq l:purL (l.map bW)=true);refine gIv 8 O (λR k0=>?_);skip
 refine gSo 0 O (kyq O O O O O (by simp[purL]) (fclone_s l f hl) ?_);rintro w hp1 nw1 (⟨rfl,rfl,rfl,rfl⟩|⟨rfl,rfl,rfl⟩)
 ·skip
  skip
  refine gL 7 O ?_;refine gLo (α:=Nat) 4 (λi=>i=0) (λi=>[(9,.int .i64 (i:Int))]) [2,3,8] (λi=>1-i) (0) rfl (rfl) (λi hI=>?_);subst hI;exact gO 9 O (zbq 9 O (jZq Qs rfl .nilfz))
 ·rw[uAq hpp];refine gL 7 O ?_;refine gLo (α:=Nat) 4 (λi=>i<=l.length) (λi=>[(9,.int .i64 (i:Int))]) [2,3,8] (λi=>l.length-i) (0) rfl (Nat.zero_le _) (λi hI=>?_);refine gS 6 O (λh1=>?_) (λh1=>?_)
  ·have hi:i<l.length:=by omega
   obtain⟨x,hx⟩:∃x,l[i]? =some x:=⟨_,List.getElem?_eq_getElem hi⟩
   exact gP 15 O (qQq (i:=i) O O O O O O O hi) (gM 0 O (zXq O O O (frs_get l hx)) (gC 0 O (vqq x false (hv x (List.mem_of_getElem? hx))) (gP 0 O (qQq (i:=i) O O O O O O O hi) (gM 0 O (u8q O O O O O (frs_put l hx)) (gA 4 O (i+1) (gAg 2 O (i+1) (hi) Xd))))))
  ·exact gO 2 O (zbq 9 O (jZq Qs rfl (.sl (full:=false) (c:=frs l) rfl (kYq l) (zkq Xl Xh rfl) Xi)))
theorem rframes_s(l:Fs)(f:Bool)(hl:l.length<=1000000)(hv:∀x∈l,x.length<=70368744177664):PS cfg G 81 [.fz (l.map bW) 1 f] (flW l):=by
 refine gIv 17 O (λR k0=>?_);refine QOq (α:=Nat) (λi=>i<=l.length) 3 (λi=>(l.take i).map bW) 58 1 (λi=>[(4,.int .i64 (i:Int))]) [(0,_),(2,_)] _ (λi=>l.length-i) (0) ⟨rfl,rfl,trivial⟩ (Nat.zero_le _) ⟨rfl,trivial⟩ O O O (λi hI=>?_);refine zKq 5 O (gZ 0 O (List.length_map _) ?_);refine gS 3 O (λh1=>?_) (λh1=>?_)
 ·have hi:i<l.length:=by omega
  obtain⟨x,hx⟩:∃x,l[i]? =some x:=⟨_,List.getElem?_eq_getElem hi⟩
  have hlt:((l.take i).map bW).length<=1000000:=by rw[List.length_map,List.length_take];omega
  have es:(l.take (i+1)).map bW=(l.take i).map bW++[bW x]:=by rw[List.take_add_one,hx,List.map_append];rfl
  have ep:=kYq (l.take i);have ep2:purL ((l.take i).map bW++[bW x])=true:=by rw[<-es];exact kYq _
  exact gP 8 O (zqq (i:=i) O O O O O O O (ziq bW hx)) (gC 1 O (Y6q x false (hv x (List.mem_of_getElem? hx))) (gM 1 O (z6q O O (jjq [_] (k:=ti58) (news:=[bW x]) O O O O O (yzq O O O O) Xh (by show(((l.take i).map bW).length+1)*24<=_;omega) (by show((l.take i).map bW).length+1<=_;omega) rfl Xh)) (gA 6 O (i+1) (zbq 2 O (kJq 2 (i+1) (hi) Xd (Nat.zero_le _) (es) Xy Xd Ym rfl Yc ⟨rfl,trivial⟩ ⟨rfl,rfl,trivial⟩ Xg Xg rfl Xk Xj Yf)))))
 ·rw[List.take_of_length_le (show l.length<=i by omega)];exact zbq 2 O (qbq Xi (z0q 9 O (jZq Xo O (utq (H0:=[]) Xl (kYq _) Xh))))
def FewC(cs:List Fs)(ws:List Wrk):Prop:=(cs.length<=8/\ws.length<=64)/\∀l∈cs,l.length<=32
noncomputable instance(cs:List Fs)(ws:List Wrk):Decidable (FewC cs ws):=Classical.propDecidable _
theorem QQq(l:Fs):PS cfg G 74 [flW l] (.bool (decide (32<l.length))):=by
 by_cases h:32<l.length
 ·skip
  exact gI 8 O (λR k0=>gZ 0 O (List.length_map _) (gT 0 O (ltI_iff.2 Xd) (gQ 4 O (dec_t h))))
 ·skip
  exact gI 8 O (λR k0=>gZ 0 O (List.length_map _) (gF 0 O (ltI_not.2 Xd) (gQ 4 O (ygq h))))
def BadK(x:Wrk):Prop:=x.kind<1\/4<x.kind
noncomputable instance(x:Wrk):Decidable (BadK x):=Classical.propDecidable _
theorem begin2_s(x:Wrk):PS cfg G 76 [wrG x] (.bool (decide (BadK x))):=by
 by_cases h:x.kind<1
 ·skip
  exact gI 10 O (λR k0=>gT 0 O (ltI_iff.2 (h)) (gQ 9 O (dec_t (.inl h))))
 ·by_cases h4:4<x.kind
  ·skip
   exact gI 10 O (λR k0=>gF 0 O (ltI_not.2 (h)) (gT 3 O (ltI_iff.2 (h4)) (gQ 5 O (dec_t (.inr h4)))))
  ·skip
   exact gI 10 O (λR k0=>gF 0 O (ltI_not.2 (h)) (gF 3 O (ltI_not.2 (h4)) (gQ 5 O (ygq λq=>q.elim h h4))))
theorem rfew_s(cs:List Fs)(ws:List Wrk)(f g:Bool):PS cfg G 80 [.fz (cs.map flW) 1 f,.fz (ws.map wrG) 35 g] (.bool (decide (FewC cs ws))):=by
 by_cases h8:cs.length<=8
 ·by_cases h64:ws.length<=64
  ·skip
   refine gI 9 O (λR k0=>gZ 0 O (List.length_map _) (gF 0 O (ltI_not.2 Xd) (gZ 2 O (List.length_map _) (gF 0 O (ltI_not.2 Xd) ?_))));refine gLo (α:=Nat) 13 (λi=>i<=cs.length/\∀j x,j<i->cs[j]? =some x->x.length<=32) (λi=>[(5,.int .i64 (i:Int))]) [0,4] (λi=>cs.length-i) (0) rfl (⟨Nat.zero_le _,λj x h=>by omega⟩) (λi hI=>?_);obtain⟨g1,g2⟩:=hI;refine gZ 5 O (List.length_map _) ?_;refine gS 3 O (λh1=>?_) (λh1=>?_)
   ·obtain⟨x,hx⟩:∃x,cs[i]? =some x:=⟨_,List.getElem?_eq_getElem Xd⟩
    refine gP 8 O (zqq (i:=i) O O O O O O O (ziq flW hx)) (gZ 1 O (List.length_map _) ?_);refine gS 3 O (λh2=>?_) (λh2=>?_)
    ·exact gO 8 O (gQ 2 O (ygq λq=>by have:=q.2 x (List.mem_of_getElem? hx);omega))
    ·exact gA 5 O (i+1) (gAg 2 O (i+1) (⟨by omega,λj y hj hy=>by rcases Nat.lt_succ_iff_lt_or_eq.1 hj with q|rfl;exact g2 j y q hy;have:=Option.some.inj (hx.symm.trans hy);subst this;omega⟩) Xd)
   ·refine gO 2 O ?_
    exact gQ 8 O (dec_t ⟨⟨h8,h64⟩,λx hx=>by
     obtain⟨j,hj⟩:=List.getElem?_of_mem hx;exact g2 j x Yx hj⟩)
  ·skip
   exact gI 9 O (λR k0=>gZ 0 O (List.length_map _) (gF 0 O (ltI_not.2 Xd) (gZ 2 O (List.length_map _) (gT 0 O (ltI_iff.2 Xd) (gQ 11 O (ygq λq=>h64 q.1.2))))))
 ·skip
  exact gI 9 O (λR k0=>gZ 0 O (List.length_map _) (gT 0 O (ltI_iff.2 Xd) (gQ 15 O (ygq λq=>h8 q.1.1))))
end
section
attribute [local irreducible] CoW OpW FlW Step Spec
noncomputable def lokZ:W:=.agg 2 [.int .i64 0,.nils]
theorem jpq:∀k:Nat,purL (List.replicate k lokZ)=true
 |0=>rfl
 |k+1=>by rw[List.replicate_succ];show(true&&purL (List.replicate k lokZ))=true;rw[jpq k];rfl
noncomputable def aqZ:W:=.agg 134 [.int .u8 0,.agg 99 [z32,z32,.int .u64 0,.int .u64 0,.int .u64 0,z32],z32,.int .i64 0,.int .i64 0]
noncomputable def rpZ:W:=.agg 240 [.int .u8 0,.int .i64 0,.int .i64 0,z32,.agg 2 [.int .u64 0,.int .u64 0],.agg 34 [.int .u8 0,z32,.int .i64 0],.agg 67 [z32,.int .u8 0,z32,.nils,.nils],.int .i64 0,zIt]
noncomputable def evZ:W:=.agg 100 [.int .i64 0,.bool false,.agg 98 [.int .i64 0,z32,z32,z32,.int .i64 0]]
noncomputable def exZ:W:=.agg 106 [.int .u8 0,.int .i64 0,.nils,.nils,.nils,.int .u64 0,evZ]
noncomputable def cliW(l:Fs):W:=.agg 383 [flW l,.int .i64 0,.int .u8 0,aqZ,noVw,rpZ]
theorem aqZ_pur:purW aqZ=true:=by decide+kernel
theorem rpZ_pur:purW rpZ=true:=by decide+kernel
theorem uiq:purW exZ=true:=by decide+kernel
@[simp] theorem cliW_pur(l:Fs):purW (cliW l)=true:=by
 show(purW (flW l)&&(true&&(true&&(purW aqZ&&(true&&(purW rpZ&&true))))))=true;rw[flW_pur,aqZ_pur,rpZ_pur];rfl
@[simp] theorem qSq(l:List Fs):purL (l.map cliW)=true:=z3q cliW_pur l
noncomputable def wdX(R L V S C F:W):W:=.agg 158 [R,L,V,S,hub0,C,exZ,F,.nils,.nils]
noncomputable def wdZ:W:=wdX (.agg 38 [.int .i64 0,.int .i64 0,.int .i64 0,.int .i64 0,.int .i64 0,.int .i64 0,z32]) .nils noVw .nils .nils .nils
theorem v5q:purW wdZ=true:=by decide+kernel
noncomputable def wdG(r:Ru)(n:Nat)(v:Vw)(k:Nat)(cs:List Fs)(ws:List Wrk):W:=wdX (ruG r) (.fz (List.replicate n lokZ) 2 false) (vwG v) (shsW k) (.fz (cs.map cliW) 383 false) (.fz (ws.map wrG) 35 false)
theorem jEq(r:Ru)(n:Nat)(v:Vw)(k:Nat)(cs:List Fs)(ws:List Wrk):purW (wdG r n v k cs ws)=true:=by
 show(purW (ruG r)&&(purL (List.replicate n lokZ)&&(purW (vwG v)&&(purW (shsW k)&&(true&&(purL (cs.map cliW)&&(purW exZ&&(purL (ws.map wrG)&&(true&&(true&&true))))))))))=true;rw[jIq,jpq,xXq,kEq,qSq,uiq,jDq];rfl
set_option maxRecDepth 100000 in
theorem w_get(b k n c:Nat)(l:List W)(r:Ru)(v:Vw)(F:List W):zVq 50 (wdX (ruG r) (.sl b 0 0 n 2 none) (vwG v) (shsW k) (gW c 383 l) (.fz F 35 false)) 48 1 false=some (gW c 383 l):=by cases l<;>rfl
theorem w_put(b k n c:Nat)(l:List W)(r:Ru)(v:Vw)(F:List W)(b' m:Nat):yMq 50 (wdX (ruG r) (.sl b 0 0 n 2 none) (vwG v) (shsW k) (gW c 383 l) (.fz F 35 false)) 48 (.sl b' 0 0 m 383 none)=some (wdX (ruG r) (.sl b 0 0 n 2 none) (vwG v) (shsW k) (.sl b' 0 0 m 383 none) (.fz F 35 false)):=by cases l<;>rfl
theorem ren_wd(τ:Nat->Nat)(r:Ru)(b n:Nat)(v:Vw)(k c m:Nat)(ws:List Wrk):renW τ (wdX (ruG r) (.sl b 0 0 n 2 none) (vwG v) (shsW k) (.sl c 0 0 m 383 none) (.fz (ws.map wrG) 35 false))=wdX (ruG r) (.sl (τ b) 0 0 n 2 none) (vwG v) (shsW k) (.sl (τ c) 0 0 m 383 none) (.fz (ws.map wrG) 35 false):=by
 unfold wdX;simp only[renW,yNq,ztq (jIq r),ztq (xXq v),ztq (kEq k),ztq uiq,ztq (show purW hub0=true from rfl),khq (jDq ws)]
theorem ref_wd(j:Nat)(r:Ru)(b n:Nat)(v:Vw)(k c m:Nat)(ws:List Wrk)(hb:b<j)(hc:c<j):refB j (wdX (ruG r) (.sl b 0 0 n 2 none) (vwG v) (shsW k) (.sl c 0 0 m 383 none) (.fz (ws.map wrG) 35 false))=true:=by
 have h1:refL j (ws.map wrG)=true:=zdq (w:=.fz (ws.map wrG) 35 false) (show purW (.fz (ws.map wrG) 35 false)=true from jDq ws);unfold wdX;simp only[refB,refL,zdq (jIq r),zdq (xXq v),zdq (kEq k),zdq uiq,zdq (show purW hub0=true from rfl),h1];simp[hb,hc]
open Classical in
noncomputable def wldE(r:Ru)(l:List Pr)(cs:List Fs)(ws:List Wrk):Int:=if autE r l≠0 then autE r l else if¬FewC cs ws then 4 else if∃x∈ws,BadK x then 2 else 0
def WldQ(P:Ch->Prop)(r:Ru)(l:List Pr)(cs:List Fs)(ws:List Wrk):W->Prop:=λw=>(∃e:Int,wldE r l cs ws=e/\e≠0/\w= .tup [wdZ,.int .i64 e])\/(wldE r l cs ws=0/\FewC cs ws/\okU r/\∃A,vLq A l/\P A/\w= .tup [wdG r (r.shards.toNat+1) ⟨0,false,0,A⟩ r.shards.toNat cs ws,.int .i64 0])
theorem v4q{r:Ru}{l:List Pr}{cs:List Fs}{ws:List Wrk}(h:autE r l≠0):wldE r l cs ws=autE r l:=if_pos h
theorem wldE_f{r:Ru}{l:List Pr}{cs:List Fs}{ws:List Wrk}(h:autE r l=0)(hf:¬FewC cs ws):wldE r l cs ws=4:=by unfold wldE;rw[if_neg (λq=>q h),if_pos hf]
theorem wldE_b{r:Ru}{l:List Pr}{cs:List Fs}{ws:List Wrk}(h:autE r l=0)(hf:FewC cs ws)(hb:∃x∈ws,BadK x):wldE r l cs ws=2:=by unfold wldE;rw[if_neg (λq=>q h),if_neg (λq=>q hf),if_pos hb]
theorem wldE_0{r:Ru}{l:List Pr}{cs:List Fs}{ws:List Wrk}(h:autE r l=0)(hf:FewC cs ws)(hb:¬∃x∈ws,BadK x):wldE r l cs ws=0:=by unfold wldE;rw[if_neg (λq=>q h),if_neg (λq=>q hf),if_neg hb]
theorem z2q(e:Int):purW (.tup [wdZ,.int .i64 e])=true:=by show(purW wdZ&&_)=true;rw[v5q];rfl
set_option maxRecDepth 100000 in
open Classical in
theorem begin_s(r:Ru)(l:List Pr)(hb:l.length<=1000000000)(cs:List Fs)(ws:List Wrk)(hc:cs.length<=1000000000)(hwl:ws.length<=1000000000)(hv:FewC cs ws->∀x∈cs,∀y∈x,y.length<=70368744177664):PE cfg glK 29 [ruG r,psW l,.fz (cs.map flW) 1 false,.fz (ws.map wrG) 35 false] (WldQ (λA=>OkC A/\MayC A) r l cs ws):=by
 by_cases h8:cs.length<=8/\ws.length<=64
 ·by_cases h32:∃x∈cs,32<x.length
  ·have hf:¬FewC cs ws:=λq=>by obtain⟨x,h1,h2⟩:=h32;have:=q.2 x h1;omega
   refine gIe 11 O (λR k0=>gE 0 O (Z5q r l hb) ?_);rintro w hw ⟨A,q,k,hq,rfl⟩;refine gS 15 O (λh1=>?_) (λh1=>?_)
   ·have h0:autE r l≠0:=by omega
    exact zbq 10 O (z9q (w':=.tup [wdZ,.int .i64 (autE r l)]) Qs rfl (.pur (z2q _)) (z2q _) (.inl ⟨_,v4q h0,h0,rfl⟩))
   ·have h0:autE r l=0:=by omega
    exact gZ 6 O (List.length_map _) (gF 0 O (ltI_not.2 Xd) (gZ 2 O (List.length_map _) (gF 0 O (ltI_not.2 Xd) (gC 3 O (zWq (w':=.bool true) (ctfl_s cs false 74 (λl=>32<l.length) (λx _=>QQq x) rfl hc) (by rw[decide_eq_true (h32)])) (zbq 13 O (z9q (w':=.tup [wdZ,.int .i64 4]) Qs rfl (.pur (z2q _)) (z2q _) (.inl ⟨_,wldE_f h0 hf,by decide,rfl⟩)))))))
  ·have hf:FewC cs ws:=⟨h8,λx hx=>Nat.le_of_not_lt λq=>h32 ⟨x,hx,q⟩⟩;by_cases hbad:∃x∈ws,BadK x
   ·skip
    refine gIe 11 O (λR k0=>gE 0 O (Z5q r l hb) ?_);rintro w hw ⟨A,q,k,hq,rfl⟩;refine gS 15 O (λh1=>?_) (λh1=>?_)
    ·have h0:autE r l≠0:=by omega
     exact zbq 10 O (z9q (w':=.tup [wdZ,.int .i64 (autE r l)]) Qs rfl (.pur (z2q _)) (z2q _) (.inl ⟨_,v4q h0,h0,rfl⟩))
    ·have h0:autE r l=0:=by omega
     exact gZ 6 O (List.length_map _) (gF 0 O (ltI_not.2 Xd) (gZ 2 O (List.length_map _) (gF 0 O (ltI_not.2 Xd) (gC 3 O (zWq (w':=.bool false) (ctfl_s cs false 74 (λl=>32<l.length) (λx _=>QQq x) rfl hc) (by rw[decide_eq_false (h32)])) (gC 10 O (zWq (w':=.bool true) (ctwr_s ws false 76 BadK (λx _=>begin2_s x) rfl hwl) (by rw[decide_eq_true (hbad)])) (zbq 12 O (z9q (w':=.tup [wdZ,.int .i64 2]) Qs rfl (.pur (z2q _)) (z2q _) (.inl ⟨_,wldE_b h0 hf hbad,by decide,rfl⟩))))))))
   ·refine gIe 11 O (λR k0=>gE 0 O (Z5q r l hb) ?_);rintro w hw ⟨A,q,k,hq,rfl⟩;refine gS 15 O (λh1=>?_) (λh1=>?_)
    ·have h0:autE r l≠0:=by omega
     exact zbq 10 O (z9q (w':=.tup [wdZ,.int .i64 (autE r l)]) Qs rfl (.pur (z2q _)) (z2q _) (.inl ⟨_,v4q h0,h0,rfl⟩))
    ·have h0:autE r l=0:=by omega
     obtain⟨hr,fA,pA,rfl,rfl⟩:=hq h0;obtain⟨⟨s1,s8⟩,_⟩:=id hr;refine gZ 6 O (List.length_map _) (gF 0 O (ltI_not.2 Xd) (gZ 2 O (List.length_map _) (gF 0 O (ltI_not.2 Xd) (gC 3 O (zWq (w':=.bool false) (ctfl_s cs false 74 (λl=>32<l.length) (λx _=>QQq x) rfl hc) (by rw[decide_eq_false (h32)])) (gC 10 O (zWq (w':=.bool false) (ctwr_s ws false 76 BadK (λx _=>begin2_s x) rfl hwl) (by rw[decide_eq_false (hbad)])) (gA 10 O (q.shards.toNat+1) (gM 0 O (kRq (l:=q.shards.toNat+1) (c:=q.shards.toNat+1) O O O O O O O O (Nat.le_refl _) (by show 32*(q.shards.toNat+1)<=_;omega) Xd O O) (gC 5 O (clw_s ws false Xd) (gZ 9 O (List.length_map _) (uIq (λ_=>xsq (fr2:=[(53,.fz (cs.map flW) 1 false),(54,.int .i64 (cs.length:Int)),(12,.ptr 4 0),(8,.ptr 1 0),(9,.int .i64 0)]) ⟨rfl,rfl,rfl,rfl,rfl,trivial⟩) (yoq O O ?_)))))))))))
     refine zpq 3 O ?_;refine yLq (α:=Nat) (λi=>i<=cs.length) (λi=>[(55,.int .i64 (i:Int))]) [(8,_),(9,_),(12,_),(53,_),(54,_)] (λi=>[(4,93,wdX (ruG q) (.sl 3 0 0 (q.shards.toNat+1) 2 none) (vwG ⟨0,false,0,A⟩) (shsW q.shards.toNat) (gW 5 383 ((cs.take i).map cliW)) (.fz (ws.map wrG) 35 false)),(3,182,.arr ((q.shards.toNat+1)*2) 2 (List.replicate (q.shards.toNat+1) lokZ)),(2,153,auG q ⟨0,false,0,A⟩ q.shards.toNat),(1,93,wdZ),(0,72,ruG q)]++gH 5 175 383 ((cs.take i).map cliW)) (λi=>cs.length-i) (0) ⟨rfl,rfl,rfl,rfl,rfl,trivial⟩ (Nat.zero_le _) ⟨rfl,trivial⟩ (rfl) (λi hI=>?_);refine zKq 6 O ?_;refine gS 0 O (λh2=>?_) (λh2=>?_)
     ·have hi:i<cs.length:=by omega
      obtain⟨x,hx⟩:∃x,cs[i]? =some x:=⟨_,List.getElem?_eq_getElem hi⟩
      have hxm:=List.mem_of_getElem? hx;have el:((cs.take i).map cliW).length=i:=by simp;omega
      have es:(cs.take (i+1)).map cliW=(cs.take i).map cliW++[cliW x]:=by rw[List.take_add_one,hx,List.map_append];rfl
      have ep:purL ((cs.take i).map cliW++[cliW x])=true:=by rw[<-es];exact qSq _
      refine gP 6 O (zqq (i:=i) O O O O O O O (ziq flW hx)) (gM 6 O (zXq O O O (w_get _ _ _ _ _ _ _ _)) (gC 1 O (frames_s x false (by have:=hf.2 x hxm;omega) (hv hf x hxm)) (zbq 2 O (xoq rfl (z6q O O (jjq [_,_,_,_,_,_] (k:=ti175) (news:=[cliW x]) O O O O O (yzq O O O O) Xh (by show(((cs.take i).map cliW).length+1)*680<=_;omega) (by show((cs.take i).map cliW).length+1<=_;omega) rfl Xh)) (evs_G Xt Xt) (jmq O O ?_)))));refine xoq rfl (qpq O O O O O (w_put _ _ _ _ _ _ _ _ _ _) rfl) (by generalize (cs.take i).map cliW=L;cases L<;>first|rfl|kernel_rfl) ?_;refine ykq 4 O (gA 0 O (i+1) (zbq 2 O ?_));skip
      refine y7q (i+1) hi Xd ?_;simp only;have hPp:purW (.fz (cs.map flW) 1 false)=true:=fls_pur cs;have hne:(cs.take i).map cliW++[cliW x]≠[]:=List.append_ne_nil_of_right_ne_nil _ Xh;rw[es,ubq hne,ucq hne];refine yKq (b:=5) (k:=7) Xd Xd Xd ⟨⟨rfl,rfl⟩,⟨rfl,rfl⟩,⟨rfl,rfl⟩,⟨rfl,rfl⟩,⟨by rw[ztq hPp];rfl,zdq hPp⟩,⟨rfl,rfl⟩,trivial⟩ ⟨⟨by omega,?_,?_⟩,⟨by omega,?_,zdq (show purL (List.replicate _ lokZ)=true from jpq _)⟩,⟨by omega,?_,zdq (QSq _ _ _)⟩,⟨by omega,?_,zdq v5q⟩,⟨by omega,?_,zdq (jIq _)⟩,⟨by omega,?_,zdq ep⟩,trivial⟩ Xh
      ·rw[ren_wd];rfl
      ·exact ref_wd _ _ _ _ _ _ _ _ _ Xd Xd
      ·rw[ztq (show purW (.arr _ 2 (List.replicate _ lokZ))=true from jpq _)];rfl
      ·rw[ztq (QSq _ _ _)];rfl
      ·rw[ztq v5q];rfl
      ·rw[ztq (jIq _)];rfl
      ·rw[ztq (show purW (.arr _ 383 _)=true from ep)];rfl
     ·have hi:i=cs.length:=by omega
      subst hi;rw[List.take_length];exact zbq 2 O (qbq Xi (z0q 10 O (z9q (w':=.tup [wdG q (q.shards.toNat+1) ⟨0,false,0,A⟩ q.shards.toNat cs ws,.int .i64 0]) Qs rfl (.tup (.cons (.agg (.cons (.pur (jIq _)) (.cons (.sl (full:=false) (c:=.arr ((q.shards.toNat+1)*2) 2 (List.replicate (q.shards.toNat+1) lokZ)) rfl (jpq _) (zkq Xl Xh rfl) Xi) (.cons (.pur (xXq _)) (.cons (.pur (kEq _)) (.cons (.pur rfl) (.cons (utq (H0:=[_,_,_,_,_]) (b:=5) (e:=383) (ty:=175) Xl (qSq cs) Xh) (.cons (.pur uiq) (.cons (.pur (show purW (.fz (ws.map wrG) 35 false)=true from jDq ws)) (.cons (.pur rfl) (.cons (.pur rfl) .nil))))))))))) (.cons (.pur rfl) .nil))) (by show(purW (wdG _ _ _ _ _ _)&&_)=true;rw[jEq];rfl) (.inr ⟨wldE_0 h0 hf hbad,hf,hr,A,fA,pA,rfl⟩))))
 ·have hf:¬FewC cs ws:=λq=>h8 q.1
  by_cases h9:cs.length<=8
  ·skip
   refine gIe 11 O (λR k0=>gE 0 O (Z5q r l hb) ?_);rintro w hw ⟨A,q,k,hq,rfl⟩;refine gS 15 O (λh1=>?_) (λh1=>?_)
   ·have h0:autE r l≠0:=by omega
    exact zbq 10 O (z9q (w':=.tup [wdZ,.int .i64 (autE r l)]) Qs rfl (.pur (z2q _)) (z2q _) (.inl ⟨_,v4q h0,h0,rfl⟩))
   ·have h0:autE r l=0:=by omega
    exact gZ 6 O (List.length_map _) (gF 0 O (ltI_not.2 Xd) (gZ 2 O (List.length_map _) (gT 0 O (ltI_iff.2 Xd) (zbq 17 O (z9q (w':=.tup [wdZ,.int .i64 4]) Qs rfl (.pur (z2q _)) (z2q _) (.inl ⟨_,wldE_f h0 hf,by decide,rfl⟩))))))
  ·skip
   refine gIe 11 O (λR k0=>gE 0 O (Z5q r l hb) ?_);rintro w hw ⟨A,q,k,hq,rfl⟩;refine gS 15 O (λh1=>?_) (λh1=>?_)
   ·have h0:autE r l≠0:=by omega
    exact zbq 10 O (z9q (w':=.tup [wdZ,.int .i64 (autE r l)]) Qs rfl (.pur (z2q _)) (z2q _) (.inl ⟨_,v4q h0,h0,rfl⟩))
   ·have h0:autE r l=0:=by omega
    exact gZ 6 O (List.length_map _) (gT 0 O (ltI_iff.2 Xd) (zbq 21 O (z9q (w':=.tup [wdZ,.int .i64 4]) Qs rfl (.pur (z2q _)) (z2q _) (.inl ⟨_,wldE_f h0 hf,by decide,rfl⟩))))
end
section
attribute [local irreducible] CoW OpW FlW Step Spec
variable {G:Nat->Option W}
def NdN(i:Nat)(t:T)(x:Node):Prop:=(∃p∈t.all,x=⟨true,p.1,p.2,0,0⟩)\/∃l r:Nat,x=jPq l r/\l<=i/\r<=i/\0<l+r
structure MsN(k:Nat)(ms:List Node)(t:T):Prop where
 len:ms.length=cntT t
 node:∀i x,ms[i]? =some x->NdN (k+i) t x
theorem msn_nil(k:Nat):MsN k [] .nil:=⟨rfl,λi x h=>by simp at h⟩
theorem msn_leaf(n:Nat)(k:Dig)(v:List UInt8):MsN n [lfN k v] (.leaf k v):=⟨rfl,λi x h=>by
 obtain rfl:i=0:=by have:=qXq h;simp at this;omega
 cases h;exact .inl ⟨(k,v),by simp[T.all],rfl⟩⟩
theorem msn_fork{ns m1 m2 M:List Node}{n1 n2:Nat}{tl tr:T}(h1:MsN ns.length m1 tl)(h2:MsN (ns++m1).length m2 tr)(eM:(ns++m1)++m2=M)(l1:n1<=M.length)(l2:n2<=M.length)(h0:0<n1+n2):MsN ns.length (m1++m2++[jPq n1 n2]) (.fork tl tr):=by
 have eL:M.length=ns.length+m1.length+m2.length:=by rw[<-eM,List.length_append,List.length_append]
 have hall:(T.fork tl tr).all=tl.all++tr.all:=by simp[T.all]
 have up:∀{i:Nat} {t:T} {x:Node},NdN i t x->(∀p∈t.all,p∈(T.fork tl tr).all) ->NdN i (.fork tl tr) x:=λh hp=>by
  rcases h with ⟨p,hm,e⟩|h
  ·exact .inl ⟨p,hp p hm,e⟩
  ·exact .inr h
 refine⟨by rw[List.length_append,List.length_append,h1.len,h2.len];rfl,λi x hx=>?_⟩;rcases Nat.lt_or_ge i (m1++m2).length with hi|hi
 ·rw[List.getElem?_append_left hi] at hx;rcases Nat.lt_or_ge i m1.length with hj|hj
  ·rw[List.getElem?_append_left hj] at hx;exact up (h1.node i x hx) λp hp=>by rw[hall];exact List.mem_append_left _ hp
  ·rw[List.getElem?_append_right hj] at hx;have:=h2.node _ x hx;rw[show(ns++m1).length+(i-m1.length)=ns.length+i by rw[List.length_append];omega] at this;exact up this λp hp=>by rw[hall];exact List.mem_append_right _ hp
 ·have hl:=qXq hx;simp only[List.length_append,List.length_cons,List.length_nil] at hl hi;rw[List.getElem?_append_right (by rw[List.length_append];omega),show i-(m1++m2).length=0 by rw[List.length_append];omega] at hx;cases hx;exact .inr ⟨n1,n2,rfl,by omega,by omega,h0⟩
theorem rep_zero{ns:List Node}{t:T}(h:Rep ns 0 t):t= .nil:=by cases h;rfl
def OfQn(ns:List Node)(r:Int)(t:T):W->HpW->Nat->Prop:=λw hp nw=>∃ms n,MsN ns.length ms t/\Rep (ns++ms) n t/\w= .tup [tgW (th (cntT t)) (ns++ms) r,.int .i64 ((n:Nat):Int)]/\hp=[(2,24,tgW (th (cntT t)) (ns++ms) r)]++gH (th (cntT t)) 230 36 ((ns++ms).map nW)/\nw=3
def OfSn(G:Nat->Option W)(t:T)(d:Nat):Prop:=∀(f:Bool) (ns:List Node) (r:Int),ns.length+cntT t<=1000000->qoq cfg G 185 1 [tgW 0 ns r,.fz (t.all.map pW) 33 f,.int .i64 (d:Int)] (gH 0 230 36 (ns.map nW)) (OfQn ns r t)
section
variable {ops:Array Oper} {l:List Oper} {K:FrW->HpW->Nat->Res->Prop} {m nw:Nat} {fr:FrW} {hp:HpW} {R:Res} {o:Oper} {x:Operand} {xs:Array Operand} {ats:Array TypeId} {t:T} {d:Nat} {f:Bool} {ns:List Node} {r:Int}
theorem op_ofn(k:Nat)(P:HpW)(hg:yUq ops fr o=some true)(ho:o.op= .call ⟨.value x,xs,ats⟩)(hx:evW cfg G fr x=some (.fn 185 [] []))(he:cfg.ext 185=none)(hxs:evLW cfg G fr xs.toList=some [tgW k ns r,.fz (t.all.map pW) 33 f,.int .i64 (d:Int)])(hhp:hp=P++gH k 230 36 (ns.map nW))(hP:∀p∈P,p.1≠k/\p.1<nw)(nd:(P.map (·.1)).Nodup)(hk:k<nw)(sp:OfSn G t d)(hl:ns.length+cntT t<=1000000)
  (h:∀(ms:List Node) (n k':Nat),MsN ns.length ms t->Rep (ns++ms) n t->(k'=k\/k'=nw) ->OpW cfg G m ops l (putW fr o.dst (.tup [tgW k' (ns++ms) r,.int .i64 ((n:Nat):Int)])) (P++gH k' 230 36 ((ns++ms).map nW)) (nw+2) R K):OpW cfg G m ops (o::l) fr hp nw R K:=by
 have pn:purL (ns.map nW)=true:=z3q xRq _;have pp:purL (t.all.map pW)=true:=qrq _;refine zLq hg (jcq (ext:=[k]) (ws:=[tgW 0 ns r,.fz (t.all.map pW) 33 f,.int .i64 (d:Int)]) (hp0:=gH 0 230 36 (ns.map nW)) ho hx he hxs ?_ (sp f ns r hl) Xh Qk ?_ ?_ ?_ ?_)
 ·show [tgW k ns r,.fz (t.all.map pW) 33 f,.int .i64 (d:Int)]=[renW _ (tgW 0 ns r),renW _ (.fz (t.all.map pW) 33 f),.int .i64 (d:Int)];rw[ztq (show purW (.fz (t.all.map pW) 33 f)=true from pp)];unfold tgW;simp only[renW,yNq,ren_g];rfl
 ·cases ns.map nW with
  |nil=>exact List.nodup_nil
  |cons y q=>simp[gH]
 ·intro i ty w hi;cases e:ns.map nW with
  |nil=>rw[e] at hi;simp[gH,hget] at hi
  |cons y q=>
   rw[e] at hi pn hhp;have hpa:purW (.arr ((y::q).length*36) 36 (y::q))=true:=pn;simp only[gH] at hi;rw[zmq] at hi;split at hi
   ·rename_i e0;subst e0;cases hi;refine⟨by simp,zdq hpa,k,rfl,?_⟩;rw[hhp,ztq hpa];exact q8q λp hp=>(hP p hp).1
   ·simp[hget] at hi
 ·show(refB 1 (tgW 0 ns r)&&(refB 1 (.fz (t.all.map pW) 33 f)&&(refB 1 (.int .i64 (d:Int))&&true)))=true;rw[zdq (m:=1) (show purW (.fz (t.all.map pW) 33 f)=true from pp)];unfold tgW;simp[refB,refL,ref_g]
 ·rintro w hp1 nw1 ⟨ms,n,h1,h2,rfl,rfl,rfl⟩;have pm:purL ((ns++ms).map nW)=true:=z3q xRq _
  obtain⟨k',hk',ek⟩:∃k',(k'=k\/k'=nw)/\numC [k] nw (th (cntT t))=k':=by
   cases cntT t with
   |zero=>exact⟨k,.inl rfl,rfl⟩
   |succ c=>exact⟨nw,.inr rfl,rfl⟩
  have h:=h ms n k' h1 h2 hk'
  have e1:renW (numC [k] nw) (.tup [tgW (th (cntT t)) (ns++ms) r,.int .i64 ((n:Nat):Int)])= .tup [tgW k' (ns++ms) r,.int .i64 ((n:Nat):Int)]:=by
   unfold tgW;simp only[renW,yNq,ren_g,ek]
  have e2:renH (numC [k] nw) ([(2,24,tgW (th (cntT t)) (ns++ms) r)]++gH (th (cntT t)) 230 36 ((ns++ms).map nW))=(nw+1,24,tgW k' (ns++ms) r)::gH k' 230 36 ((ns++ms).map nW):=by
   rw[List.cons_append,List.nil_append];show(numC [k] nw 2,24,renW (numC [k] nw) (tgW (th (cntT t)) (ns++ms) r))::renH (numC [k] nw) (gH (th (cntT t)) 230 36 ((ns++ms).map nW))=_;rw[renH_g _ _ _ _ pm,ek];unfold tgW;simp only[renW,yNq,ren_g,ek];rfl
  rw[e1,e2,show([k]:List Nat).length=1 from rfl,show nw+(3-1)=nw+2 from rfl];show OpW cfg G m ops l _ (((nw+1,24,tgW k' (ns++ms) r)::gH k' 230 36 ((ns++ms).map nW))++hdel hp k) (nw+2) R K;rw[hhp,hdel_g λp hp=>(hP p hp).1];have hPk:∀p∈P,p.1≠k':=λp hp=>by have:=hP p hp;rcases hk' with rfl|rfl<;>omega
  refine uIq (λ_=>QHq (hp2:=P++gH k' 230 36 ((ns++ms).map nW)) (λi y hy=>?_) (juq hPk nd)) h
  have hi:i≠nw+1:=by
   rintro rfl;rw[jfq λp hp=>?_] at hy
   ·cases hy
   ·rcases List.mem_append.1 hp with q|q
    ·have:=(hP p q).2;omega
    ·rw[kbq p q];rcases hk' with rfl|rfl<;>omega
  rw[List.cons_append,zmq,if_neg (Ne.symm hi),uNq];rw[uNq] at hy;cases hq:hget P i with
  |none=>
   rw[hq] at hy;have hy:hget (gH k' 230 36 ((ns++ms).map nW)) i=some y:=hy;rw[hy];rfl
  |some z=>
   rw[hq] at hy;have hy:some z=some y:=hy
   have hik:i≠k':=by
    rintro rfl;rw[jfq hPk] at hq;cases hq
   rw[jfq λp hp=>by rw[kbq p hp];exact Ne.symm hik];exact hy
end
theorem of_niln(d:Nat):OfSn G .nil d:=by
 intro f ns r hl R;refine gIs 11 O (λk0=>?_);refine gL 0 O ?_;refine zbq 13 O ?_;exact fin (w:=.tup [tgW 0 ns r,.int .i64 ((0:Nat):Int)]) Qs ((QHq (hp2:=[(2,24,tgW 0 ns r)]++gH 0 230 36 (ns.map nW)) (λk y h=>keep2 (d:=1) Xd h) (juq Xh Xh)).trans (yXq (fr2:=[(6,.ptr 2 0),(7,.int .i64 0)]) ⟨rfl,rfl,trivial⟩ O O)) rfl (show _=_/\OfQn ns r .nil _ _ _ from⟨rfl,[],0,msn_nil _,.nil,by rw[List.append_nil];rfl,by rw[List.append_nil];rfl,rfl⟩)
theorem of_leafn(d:Nat)(k:Dig)(v:List UInt8)(hv:v.length<=70368744177664):OfSn G (.leaf k v) d:=by
 intro f ns r hl R;have hl:ns.length+1<=1000000:=hl;obtain⟨L,eL⟩:∃L,ns.map nW=L:=⟨_,rfl⟩
 have hL:L.length<=1000000:=by rw[<-eL,List.length_map];omega
 have pL:purL L=true:=by rw[<-eL];exact z3q xRq _
 have e2:(ns++[lfN k v]).map nW=L++[nW (lfN k v)]:=by rw[List.map_append,eL];rfl
 have pn:purL (L++[nW (lfN k v)])=true:=by rw[<-e2];exact z3q xRq _
 have en:(L++[nW (lfN k v)]).length=ns.length+1:=by rw[<-e2,List.length_map,List.length_append];rfl
 have hne:L++[nW (lfN k v)]≠[]:=by simp
 have hrep:Rep (ns++[lfN k v]) (ns.length+1) (.leaf k v):=.leaf (l:=0) (r:=0) (by rw[List.getElem?_append_right (Nat.le_refl _),Nat.sub_self];rfl);unfold tgW;rw[eL];refine Zbq (fn:=Tryz.f185) O O O (Ob rfl) (λk0=>?_);skip
 cases L with
 |nil=>
  refine zKq 11 O ?_;refine gL 0 O ?_;refine gL 10 O ?_;refine gM 7 O (zXq O O O (g_get 0 36 _ _)) ?_;refine gX 1 O ?_;refine gX 3 O ?_;refine zbq 2 O ?_;refine QCq O O O O O O (Y6q v false hv) Xh Xh Xt ?_;refine ykq 2 O ?_;refine gM 0 O (z6q O O (jjq [_,_,_] (k:=ti230) (news:=[nW (lfN k v)]) O O O O O (yzq O O O O) Xh (by show(_+1)*80<=_;omega) (by show _+1<=_;omega) rfl Xh)) ?_;refine gM 1 O (qpq O O O O O (g_put 0 36 _ _ _ _) rfl) ?_;refine gL 7 O ?_;refine zbq 6 O ?_;refine fin (w:=.tup [tgW 1 (ns++[lfN k v]) r,.int .i64 ((ns.length+1:Nat):Int)]) Qs (ent_mid (b:=1) (k:=4) (nw2:=3) (fr2:=[(6,.ptr 2 0),(7,.int .i64 ((ns.length+1:Nat):Int))]) (hp2:=[(2,24,tgW 1 (ns++[lfN k v]) r)]++gH 1 230 36 ((ns++[lfN k v]).map nW)) Xd Xd Xd Yk ⟨⟨rfl,rfl⟩,⟨?_,rfl⟩,trivial⟩ ?_ (juq Xh Xh)) rfl (show _=_/\OfQn ns r (.leaf k v) _ _ _ from⟨rfl,[lfN k v],ns.length+1,msn_leaf _ k v,hrep,rfl,rfl,rfl⟩)
  ·show some (W.int .i64 (((([]:List W)++[nW (lfN k v)]:List W).length:Nat):Int))=some (W.int .i64 ((ns.length+1:Nat):Int));rw[en]
  ·unfold tgW;rw[e2,ubq hne,ucq hne];exact⟨⟨by omega,rfl,rfl⟩,⟨by omega,by rw[ztq (show purW (.arr _ 36 _)=true from pn)];rfl,zdq (show purW (.arr _ 36 _)=true from pn)⟩,trivial⟩
 |cons y q=>
  refine zKq 11 O ?_;refine gL 0 O ?_;refine gL 10 O ?_;refine gM 7 O (zXq O O O (g_get 0 36 _ _)) ?_;refine gX 1 O ?_;refine gX 3 O ?_;refine zbq 2 O ?_;refine QCq O O O O O O (Y6q v false hv) Xh Xh Xt ?_;refine ykq 2 O ?_;refine gM 0 O (z6q O O (jjq [_,_,_] (k:=ti230) (news:=[nW (lfN k v)]) O O O O O (yzq O O O O) Xh (by show(_+1)*80<=_;omega) (by show _+1<=_;omega) rfl Xh)) ?_;refine gM 1 O (qpq O O O O O (g_put 0 36 _ _ _ _) rfl) ?_;refine gL 7 O ?_;refine zbq 6 O ?_;refine fin (w:=.tup [tgW 1 (ns++[lfN k v]) r,.int .i64 ((ns.length+1:Nat):Int)]) Qs (ent_mid (b:=1) (k:=4) (nw2:=3) (fr2:=[(6,.ptr 2 0),(7,.int .i64 ((ns.length+1:Nat):Int))]) (hp2:=[(2,24,tgW 1 (ns++[lfN k v]) r)]++gH 1 230 36 ((ns++[lfN k v]).map nW)) Xd Xd Xd Yk ⟨⟨rfl,rfl⟩,⟨?_,rfl⟩,trivial⟩ ?_ (juq Xh Xh)) rfl (show _=_/\OfQn ns r (.leaf k v) _ _ _ from⟨rfl,[lfN k v],ns.length+1,msn_leaf _ k v,hrep,rfl,rfl,rfl⟩)
  ·show some (W.int .i64 ((((y::q)++[nW (lfN k v)]:List W).length:Nat):Int))=some (W.int .i64 ((ns.length+1:Nat):Int));rw[en]
  ·unfold tgW;rw[e2,ubq hne,ucq hne];exact⟨⟨by omega,rfl,rfl⟩,⟨by omega,by rw[ztq (show purW (.arr _ 36 _)=true from pn)];rfl,zdq (show purW (.arr _ 36 _)=true from pn)⟩,trivial⟩
theorem of_forkn(tl tr:T)(d:Nat)(b:Dig)(hz:Zr d b)(ok:(T.fork tl tr).ok d b=true)(hl:(T.fork tl tr).all.length<=1000000)(cL:OfSn G tl (d+1))(cR:OfSn G tr (d+1)):OfSn G (.fork tl tr) d:=by
 intro f ns r hc R;obtain⟨hd,okL,okR,two⟩:=ok_fork.1 ok;obtain⟨b0,b1⟩:=Qkq hz ok;have hall:(T.fork tl tr).all=tl.all++tr.all:=by simp[T.all]
 have hn2:2<=tl.all.length+tr.all.length:=u6q okL okR two;have hc:ns.length+(cntT tl+cntT tr+1)<=1000000:=hc;rw[hall] at hl⊢;rw[List.length_append] at hl;obtain⟨L,eL⟩:∃L,tl.all=L:=⟨_,rfl⟩
 obtain⟨Q,eQ⟩:∃Q,tr.all=Q:=⟨_,rfl⟩
 rw[eL] at b0;rw[eQ] at b1;rw[eL,eQ] at hn2 hl⊢;have e:((L++Q).map pW).length=L.length+Q.length:=by rw[List.length_map,List.length_append]
 have hat:∀i,i<L.length+Q.length->∃x,(L++Q)[i]? =some x:=λi hi=>⟨_,List.getElem?_eq_getElem (by rw[List.length_append];exact hi)⟩
 have pn:purL (ns.map nW)=true:=z3q xRq _;have pf:purW (.fz ((L++Q).map pW) 33 f)=true:=qrq _;refine gIs 11 O (λk0=>?_);refine gZ 0 O e (gF 0 O (eqI_not.2 Xd) (gZ 9 O e (gF 0 O (eqI_not.2 Xd) (zbq 18 O ?_))));have z0:Q.take (0-L.length)=[]:=by rw[Nat.zero_sub];rfl
 refine qRq (α:=Nat) (λi=>i<=L.length+Q.length) (λi=>[(8,gW 3 33 ((L.take i).map pW)),(10,.int .i64 (i:Int)),(9,gW 4 33 ((Q.take (i-L.length)).map pW)),(1,.fz ((L++Q).map pW) 33 f),(2,.int .i64 (d:Int)),(3,.ptr 1 0),(6,.ptr 2 0)]) (λi=>ofH2 ns r (L.take i) (Q.take (i-L.length))) (λ_=>5) (λ_=>R) (λi=>L.length+Q.length-i) 0 (Nat.zero_le _) ((xsq (fr2:=[(8,.nils),(10,.int .i64 0),(9,.nils),(1,.fz ((L++Q).map pW) 33 f),(2,.int .i64 (d:Int)),(3,.ptr 1 0),(6,.ptr 2 0)]) ⟨rfl,rfl,rfl,rfl,rfl,rfl,rfl,trivial⟩).trans ((xsq (fr2:=[(8,.nils),(10,.int .i64 0),(9,.nils),(1,.fz ((L++Q).map pW) 33 f),(2,.int .i64 (d:Int)),(3,.ptr 1 0),(6,.ptr 2 0)]) ⟨rfl,rfl,rfl,rfl,rfl,rfl,rfl,trivial⟩).trans (yXq ⟨rfl,rfl,by rw[z0];rfl,rfl,rfl,rfl,rfl,trivial⟩ (by rw[z0];unfold ofH2;rw[show gH 4 149 33 (([]:List Pr).map pW)=[] from rfl,show gH 3 149 33 ((L.take 0).map pW)=[] from rfl,List.append_nil,List.append_nil];rfl) rfl))) (λi hI=>?_);skip
 have hI:i<=L.length+Q.length:=hI;refine zKq 5 O (gZ 0 O e ?_);refine gS 3 O (λh1=>?_) (λh1=>?_)
 ·have hi:i<L.length+Q.length:=by omega
  obtain⟨x,hx⟩:=hat i hi;skip
  by_cases hcl:i<L.length
  ·have hxl:L[i]? =some x:=by rw[List.getElem?_append_left hcl] at hx;exact hx
   have hbit:bitN x.1 d=0:=b0 x (List.mem_of_getElem? hxl);have zq:Q.take (i-L.length)=[]:=by rw[show i-L.length=0 by omega];rfl
   have zq':Q.take (i+1-L.length)=[]:=by rw[show i+1-L.length=0 by omega];rfl
   have hL2:(L.take (i+1)).map pW=(L.take i).map pW++[pW x]:=by rw[List.take_add_one,hxl,List.map_append];rfl
   have hlt:((L.take i).map pW).length<=1000000:=by rw[List.length_map,List.length_take];omega
   rw[zq,ofH2_l];refine gP 8 O (zqq (i:=i) O O O O O O O (ziq pW hx)) (gC 3 O (Qaq x.1 d hd) (gT 0 O (eqI_iff.2 (by rw[hbit];rfl)) (gP 7 O (zqq (i:=i) O O O O O O O (ziq pW hx)) (gM 2 O (z6q O O (jjq ((5,_)::ofG ns r) (k:=ti149) (news:=[pW x]) O O O O O (yzq O O O O) Xh (by show(((L.take i).map pW).length+1)*56<=_;omega) (by show((L.take i).map pW).length+1<=_;omega) rfl (λp hp=>by rcases List.mem_cons.1 hp with q|q;(rw[q];show¬5=3;omega);have:=jeq p q;omega))) (gA 6 O (i+1) (zbq 2 O ?_))))));skip
   refine y7q (i+1) hi Xd ?_;simp only[zq',ofH2_l,hL2];exact Ent.trans (qhq (b:=3) (H0:=ofG ns r) (l2:=(L.take i).map pW++[pW x]) (n:=((L.take i).map pW++[pW x]).length) (fr2:=[(10,.int .i64 ((i+1:Nat):Int)),(9,.nils),(1,.fz ((L++Q).map pW) 33 f),(2,.int .i64 (d:Int)),(3,.ptr 1 0),(6,.ptr 2 0)]) 6 8 Xd Xd Yh Xh O O ⟨rfl,rfl,rfl,rfl,rfl,rfl,trivial⟩ ⟨rfl,rfl,zdq pf,rfl,rfl,rfl,trivial⟩ rfl Xh (xEq ⟨⟨by omega,rfl,rfl⟩,⟨by omega,rfl,by simp[tgW,refB,refL,ref_g]⟩,trivial⟩ (subH_g Xd pn (λx q h=>ofG_g (r:=r) h))) (ofG_nd ns r)) (xsq ⟨rfl,rfl,rfl,rfl,rfl,rfl,rfl,trivial⟩)
  ·have hxq:Q[i-L.length]? =some x:=by rw[List.getElem?_append_right Xd] at hx;exact hx
   have hbit:bitN x.1 d=1:=b1 x (List.mem_of_getElem? hxq);have zl:L.take i=L:=List.take_of_length_le Xd;have zl':L.take (i+1)=L:=List.take_of_length_le Xd;have hQ2:(Q.take (i+1-L.length)).map pW=(Q.take (i-L.length)).map pW++[pW x]:=by rw[show i+1-L.length=(i-L.length)+1 by omega,List.take_add_one,hxq,List.map_append];rfl
   have hlt:((Q.take (i-L.length)).map pW).length<=1000000:=by rw[List.length_map,List.length_take];omega
   have hnm:∀p∈ofG ns r++gH 3 149 33 (L.map pW),p.1<4:=λp hp=>by
    rcases List.mem_append.1 hp with hp|hp
    ·have:=jeq p hp;omega
    ·rw[kbq p hp];omega
   rw[zl];refine gP 8 O (zqq (i:=i) O O O O O O O (ziq pW hx)) (gC 3 O (Qaq x.1 d hd) (gF 0 O (eqI_not.2 (by rw[hbit];decide)) (gP 7 O (zqq (i:=i) O O O O O O O (ziq pW hx)) (gM 2 O (z6q O O (jjq ((5,_)::(ofG ns r++gH 3 149 33 (L.map pW))) (k:=ti149) (news:=[pW x]) O O O O O (yzq O O O O) Xh (by show(((Q.take (i-L.length)).map pW).length+1)*56<=_;omega) (by show((Q.take (i-L.length)).map pW).length+1<=_;omega) rfl (λp hp=>by rcases List.mem_cons.1 hp with q|q;(rw[q];show¬5=4;omega);have:=hnm p q;omega))) (gA 6 O (i+1) (zbq 2 O ?_))))));skip
   refine y7q (i+1) hi Xd ?_;simp only[zl',hQ2];exact Ent.trans (qhq (b:=4) (H0:=ofG ns r++gH 3 149 33 (L.map pW)) (l2:=(Q.take (i-L.length)).map pW++[pW x]) (n:=((Q.take (i-L.length)).map pW++[pW x]).length) (fr2:=[(8,gW 3 33 (L.map pW)),(10,.int .i64 ((i+1:Nat):Int)),(1,.fz ((L++Q).map pW) 33 f),(2,.int .i64 (d:Int)),(3,.ptr 1 0),(6,.ptr 2 0)]) 6 9 Xd Xd Yh Xh O O ⟨rfl,rfl,rfl,rfl,rfl,rfl,trivial⟩ ⟨ref_g Xd,rfl,zdq pf,rfl,rfl,rfl,trivial⟩ rfl Xh (xEq (xEq ⟨⟨by omega,rfl,rfl⟩,⟨by omega,rfl,by simp[tgW,refB,refL,ref_g]⟩,trivial⟩ (subH_g Xd pn (λx q h=>qFq (ofG_g (r:=r) h)))) (subH_g Xd Xh (λx q h=>by show hget (ofG ns r++gH 3 149 33 (L.map pW)) 3=_;rw[h];exact q8q (λp hp=>by have:=jeq p hp;omega)))) (juq (λp hp=>by have:=jeq p hp;omega) (ofG_nd ns r))) (yXq ⟨rfl,rfl,rfl,rfl,rfl,rfl,rfl,trivial⟩ (by unfold ofH2;rw[hQ2]) rfl)
 ·have hi:i=L.length+Q.length:=by omega
  have zl:L.take i=L:=List.take_of_length_le Xd;have zq:Q.take (i-L.length)=Q:=List.take_of_length_le Xd;rw[zl,zq];have pL:purL (L.map pW)=true:=qrq _;have pQ:purL (Q.map pW)=true:=qrq _
  have nG:∀p∈ofG ns r++gH 3 149 33 (L.map pW),p.1≠4:=λp hp=>by
   rcases List.mem_append.1 hp with hp|hp
   ·have:=jeq p hp;omega
   ·rw[kbq p hp];omega
  have nP:∀(k:Nat) (ns':List Node),∀p∈ofP k ns' r,p.1=2\/p.1=1:=λk ns' p hp=>by
   simp only[ofP,List.mem_cons,List.not_mem_nil,or_false] at hp;rcases hp with q|q<;>rw[q]
   ·exact .inl rfl
   ·exact .inr rfl
  have frz:∀k0,Ent cfg G 1 k0 [(8,gW 3 33 (L.map pW)),(10,.int .i64 (i:Int)),(9,gW 4 33 (Q.map pW)),(1,.fz ((L++Q).map pW) 33 f),(2,.int .i64 (d:Int)),(3,.ptr 1 0),(6,.ptr 2 0)] (ofH2 ns r L Q) 5 R [(8,.fz (L.map pW) 33 false),(9,.fz (Q.map pW) 33 false),(2,.int .i64 (d:Int)),(3,.ptr 1 0),(6,.ptr 2 0)] (ofG ns r) 5 R:=λk0=>
   Ent.trans (ent_frg (b:=4) (X:=ofG ns r++gH 3 149 33 (L.map pW)) (fr2:=[(8,gW 3 33 (L.map pW)),(2,.int .i64 (d:Int)),(3,.ptr 1 0),(6,.ptr 2 0)]) 9 Xl pQ Xd rfl (λblk h=>⟨⟨_,rfl,YXq (h 3 Xl)⟩,⟨_,rfl,.pur rfl⟩,⟨_,rfl,.ptrK (h 1 Xl)⟩,⟨_,rfl,.ptrK (h 2 Xl)⟩,trivial⟩) (λblk h=>uvq (uvq ⟨⟨by decide,_,rfl,.pur rfl⟩,⟨by decide,_,rfl,.agg (.cons (YXq (h 0 Xl)) (.cons (.pur rfl) .nil))⟩,trivial⟩ (subVH_g Xl pn (λx q h=>qFq (qFq (ofG_g (r:=r) h))))) (subVH_g Xl pL (λx q h=>by rw[h];exact qFq (q8q (λp hp=>by have:=jeq p hp;omega))))) (juq (λp hp=>by have:=jeq p hp;omega) (ofG_nd ns r)) nG)
    (ent_frg (b:=3) (X:=ofG ns r) (fr2:=[(9,.fz (Q.map pW) 33 false),(2,.int .i64 (d:Int)),(3,.ptr 1 0),(6,.ptr 2 0)]) 8 Xl pL Xd rfl (λblk h=>⟨⟨_,rfl,.pur pQ⟩,⟨_,rfl,.pur rfl⟩,⟨_,rfl,.ptrK (h 1 Xl)⟩,⟨_,rfl,.ptrK (h 2 Xl)⟩,trivial⟩) (λblk h=>uvq ⟨⟨by decide,_,rfl,.pur rfl⟩,⟨by decide,_,rfl,.agg (.cons (YXq (h 0 Xl)) (.cons (.pur rfl) .nil))⟩,trivial⟩ (subVH_g Xl pn (λx q h=>qFq (ofG_g (r:=r) h)))) (ofG_nd ns r) (λp hp=>by have:=jeq p hp;omega))
  refine co_ent (Ent.trans (yXq (fr2:=[(8,gW 3 33 (L.map pW)),(10,.int .i64 (i:Int)),(9,gW 4 33 (Q.map pW)),(1,.fz ((L++Q).map pW) 33 f),(2,.int .i64 (d:Int)),(3,.ptr 1 0),(6,.ptr 2 0)]) ⟨rfl,rfl,rfl,rfl,rfl,rfl,rfl,trivial⟩ O O) (frz _)) ?_;have hP:∀(k nw:Nat) (ns':List Node),k≠2->k≠1->3<=nw->∀p∈ofP k ns' r,p.1≠k/\p.1<nw:=λk nw ns' h1 h2 h3 p hp=>by rcases nP k ns' p hp with q|q<;>omega
  have ndP:∀(k:Nat) (ns':List Node),((ofP k ns' r).map (·.1)).Nodup:=λk ns'=>by simp[ofP]
  refine ycq 2 O (qbq Xi (z0q 7 O (gA 0 O (d+1) (op_ofn (f:=false) 0 (ofP 0 ns r) O O O O (by rw[eL];rfl) rfl (hP 0 5 ns Xd Xd Xd) (ndP _ _) Xd cL Xd ?_))));intro m1 n1 k1 hm1 hr1 hk1;have a1:(ns++m1).length=ns.length+cntT tl:=by rw[List.length_append,hm1.len]
  refine zpq 12 O (gA 0 O (d+1) (op_ofn (f:=false) k1 (ofP k1 (ns++m1) r) O O O O (by rw[eQ];rfl) rfl (hP k1 7 (ns++m1) Xd Xd Xd) (ndP _ _) Xd cR Xd ?_));intro m2 n2 k2 hm2 hr2 hk2;have a2:((ns++m1)++m2).length=ns.length+cntT tl+cntT tr:=by rw[List.length_append,a1,hm2.len]
  refine zpq 10 O (gM 0 O (zXq O O O (g_get k2 36 _ _)) (zbq 3 O (uIq (λ_=>ent_view [(87,nW (jPq n1 n2)),(84,gW k2 36 (((ns++m1)++m2).map nW)),(3,.ptr 1 0),(6,.ptr 2 0)] ⟨⟨_,rfl,.agg (.cons (.pur rfl) (.cons y4q (.cons .nilfz (.cons (.pur rfl) (.cons (.pur rfl) .nil)))))⟩,⟨_,rfl,YXq rfl⟩,⟨_,rfl,.ptrK rfl⟩,⟨_,rfl,.ptrK rfl⟩,trivial⟩) (Yuq O O ?_))))
  refine Yuq rfl (z6q O O (jjq ((9,_)::ofP k2 ((ns++m1)++m2) r) (k:=ti230) (news:=[nW (jPq n1 n2)]) O O O O O (yzq O O O O) Xh (by show((((ns++m1)++m2).map nW).length+1)*80<=_;rw[List.length_map];omega) (by show(((ns++m1)++m2).map nW).length+1<=_;rw[List.length_map];omega) rfl (λp hp=>by rcases List.mem_cons.1 hp with q|q;(rw[q];show¬9=k2;omega);rcases nP k2 _ p q with q|q<;>omega))) ?_;refine yoq O O (Yuq rfl (qpq O O O O O (g_put k2 36 _ _ _ _) rfl) ?_);refine zpq 7 O (gL 0 O (zbq 5 O ?_));obtain⟨M,eM⟩:∃M,(ns++m1)++m2=M:=⟨_,rfl⟩
  rw[eM] at a2⊢;have e2:(M++[jPq n1 n2]).map nW=M.map nW++[nW (jPq n1 n2)]:=by rw[List.map_append];rfl
  have pM:purL (M.map nW++[nW (jPq n1 n2)])=true:=by rw[<-e2];exact z3q xRq _
  have en:(M.map nW++[nW (jPq n1 n2)]).length=M.length+1:=by rw[<-e2,List.length_map,List.length_append];rfl
  have hne:M.map nW++[nW (jPq n1 n2)]≠[]:=by simp
  have ems:ns++(m1++m2++[jPq n1 n2])=M++[jPq n1 n2]:=by rw[<-eM];simp
  have hM1:n1<=M.length:=by have:=hr1.le;rw[a1] at this;omega
  have hM2:n2<=M.length:=by have:=hr2.le;rw[eM] at this;exact this
  have h0n:0<n1+n2:=by
   rcases Nat.eq_zero_or_pos (n1+n2) with q|q
   ·obtain rfl:n1=0:=by omega
    obtain rfl:n2=0:=by omega
    rw[<-eL,<-eQ,rep_zero hr1,rep_zero hr2] at hn2;simp[T.all] at hn2
   ·exact q
  have hrep:Rep (M++[jPq n1 n2]) (M.length+1) (.fork tl tr):=.fork (l:=n1) (r:=n2) (k:=yyq) (v:=[]) (by rw[List.getElem?_append_right (Nat.le_refl _),Nat.sub_self];rfl) hM1 hM2 (by rw[<-eM];exact(hr1.app m2).app _) (by have:=hr2.app [jPq n1 n2];rwa[eM] at this);refine fin (w:=.tup [tgW 1 (M++[jPq n1 n2]) r,.int .i64 ((M.length+1:Nat):Int)]) Qs (ent_mid (b:=1) (k:=10) (nw2:=3) (fr2:=[(6,.ptr 2 0),(7,.int .i64 ((M.length+1:Nat):Int))]) (hp2:=[(2,24,tgW 1 (M++[jPq n1 n2]) r)]++gH 1 230 36 ((M++[jPq n1 n2]).map nW)) Xd Xd Xd (by show 10<11;omega) ⟨⟨rfl,rfl⟩,⟨?_,rfl⟩,trivial⟩ ?_ (juq Xh Xh)) rfl (show _=_/\OfQn ns r (.fork tl tr) _ _ _ from⟨rfl,m1++m2++[jPq n1 n2],M.length+1,msn_fork hm1 hm2 eM hM1 hM2 h0n,by rw[ems];exact hrep,by rw[ems];rfl,by rw[ems];rfl,rfl⟩)
  ·show some (W.int .i64 (((M.map nW++[nW (jPq n1 n2)]).length:Nat):Int))=some (W.int .i64 ((M.length+1:Nat):Int));rw[en]
  ·unfold tgW;rw[e2,ubq hne,ucq hne];exact⟨⟨by omega,rfl,rfl⟩,⟨by omega,by rw[ztq (show purW (.arr _ 36 _)=true from pM)];rfl,zdq (show purW (.arr _ 36 _)=true from pM)⟩,trivial⟩
theorem Qmq:∀(t:T) (d:Nat) (b:Dig),Zr d b->t.ok d b=true->t.all.length<=1000000->(∀p∈t.all,p.2.length<=70368744177664) ->OfSn G t d
 |.nil,d,b,_,_,_,_=>of_niln d
 |.leaf k v,d,b,_,_,_,hv=>of_leafn d k v (hv (k,v) (by simp[T.all]))
 |.fork l r,d,b,hz,ok,hl,hv=>by
  obtain⟨hd,okL,okR,two⟩:=ok_fork.1 ok;have hall:(T.fork l r).all=l.all++r.all:=by simp[T.all]
  have h2:=hl;rw[hall,List.length_append] at h2;exact of_forkn l r d b hz ok hl (Qmq l (d+1) b (qKq hz) okL Xd λp hp=>hv p (by rw[hall];exact List.mem_append_left _ hp)) (Qmq r (d+1) (qaq b d) (qJq hz hd) okR Xd λp hp=>hv p (by rw[hall];exact List.mem_append_right _ hp))
theorem msn_okn{ms:List Node}{t:T}(hb:MayP t.all)(h:MsN 0 ms t):okN ms:=λi x hx=>by
 rcases h.node i x hx with ⟨p,hp,rfl⟩|⟨l,r,rfl,h1,h2,h3⟩
 ·obtain⟨j,hj⟩:=List.getElem?_of_mem hp;unfold oneB;rw[if_pos rfl];exact⟨rfl,rfl,(Qrq p.1 p.2).2 (hb.2 j (qXq hj) p hj).1⟩
 ·unfold oneB jPq;rw[if_neg (λq=>by cases q)];exact⟨⟨by simp only;omega,by simp only;omega⟩,⟨by simp only;omega,by simp only;omega⟩,rfl,rfl,by simp only;omega⟩
theorem newC_okc{t:Tree}{t0:T}(h:t.nodes.length<=262144):OkC (newC t t0):=⟨λx hx=>by rw[List.mem_singleton.1 hx];exact⟨λ_ q=>(by cases q),λ_ q=>(by cases q),Nat.zero_le _,Nat.zero_le _⟩,Nat.le_trans h Xd,by show(1:Nat)<=_;omega,λx hx=>by rw[List.mem_singleton.1 hx];exact Nat.zero_le _⟩
def MadeAn(t0:T):W->Prop:=λw=>∃(ms:List Node) (n:Nat),MsN 0 ms t0/\Rep ms n t0/\w=tW ⟨ms,(n:Int)⟩
theorem made_sn(t0:T)(f:Bool)(ok:t0.ok 0 yyq=true)(hl:t0.all.length<=1000)(hv:∀p∈t0.all,p.2.length<=70368744177664):PE cfg G 226 [.fz (t0.all.map pW) 33 f] (MadeAn t0):=by
 have hc:=cnt_le ok Xd;have sp:OfSn G t0 0:=Qmq t0 0 yyq k7q ok Xd hv;refine gIe 8 O (λR k0=>uIq (λ_=>xsq (fr2:=[(2,.ptr 0 0),(6,tgW 0 [] 0),(0,.fz (t0.all.map pW) 33 f)]) ⟨rfl,rfl,rfl,trivial⟩) (yoq O O ?_))
 refine op_ofn (f:=f) (ns:=[]) (r:=0) (t:=t0) (d:=0) 1 [(0,_)] O O O O O O Xh Xh Xd sp (by show 0+_<=_;omega) ?_;intro ms n k' hms hrep hk';rw[List.nil_append] at hrep⊢
 refine zpq 12 O (gM 0 O (qpq O O O O O (g_put1 _ 36 _ _ _) rfl) (zbq 9 O ?_));refine z9q (w':=tW ⟨ms,(n:Int)⟩) Qs rfl (.agg (.cons (utq (H0:=[(4,24,.agg 2 [gW k' 36 (ms.map nW),.int .i64 (n:Int)]),(0,24,.agg 2 [gW k' 36 (ms.map nW),.int .i64 (n:Int)])]) Xl (z3q xRq _) (λp hp=>by simp only[List.mem_cons,List.not_mem_nil,or_false] at hp;rcases hp with q|q<;>rw[q]<;>first|(show¬4=k';omega)|(show¬0=k';omega))) (.cons (.pur rfl) .nil))) Xh ⟨ms,n,hms,hrep,rfl⟩
theorem rnew17_sn(l:List Pr)(hb:l.length<=1000000000):PE cfg G 152 [psW l] (NewQ (λA=>OkC A/\MayC A) l):=by
 by_cases h:okB l
 ·obtain⟨t0,ok,rfl⟩:∃t0:T,t0.ok 0 yyq=true/\t0.all=l:=⟨_,trie_ok (mayp_srt h.1)⟩
  have hl:=h.1.1
  have hv:∀p∈t0.all,p.2.length<=64:=λp hp=>by
   obtain⟨i,hi⟩:=List.getElem?_of_mem hp;have:=(h.1.2 i (qXq hi) p hi).1;simp only[valB,Bool.and_eq_true,decide_eq_true_eq] at this;exact this.2
  have hc:=cnt_le ok Xd;refine gIe 10 O (λR k0=>gC 0 O (zWq (w':=.bool true) (begun_s t0.all false Xd) (by rw[decide_eq_true (h)])) (gE 9 O (made_sn t0 false ok Xd (λp hp=>by have:=hv p hp;omega)) ?_));rintro w hw ⟨ms,n,hms,hrep,rfl⟩;refine gC 8 O (rcfirst_s t0 ok (λp hp=>by have:=hv p hp;omega) Xd) (zbq 10 O ?_);have hml:=hms.len;have hA:IsA ⟨ms,(n:Int)⟩ n t0:=⟨⟨by show ms.length<=_;omega,msn_okn h.1 hms,rfl,hrep,ok⟩,h.2⟩;exact z9q (w':=.tup [.agg 3 [tW ⟨ms,(n:Int)⟩,.fz [newX ⟨ms,(n:Int)⟩ t0] 102 false],.int .i64 0]) Qs rfl (.tup (.cons (.agg (.cons (.pur Xh) (.cons (.sl2 (full:=false) (c':=newX ⟨ms,(n:Int)⟩ t0) (xs:=[newX ⟨ms,(n:Int)⟩ t0]) rfl (.agg (.cons (.pur (hdW_pur _)) (.cons (.pur rfl) (.cons (.agg (.cons .nilfz (.cons .nilfz .nil))) (.cons .nilfz .nil))))) rfl Xi) .nil))) (.cons (.pur rfl) .nil))) (by simp[purW,purL]) (newq_ok _ h (A:=newC ⟨ms,(n:Int)⟩ t0) ⟨t0,_,ok,rfl,rfl,n,rfl,hrep,by show ms.length<=_;omega,by omega,λp hp=>by have:=hv p hp;omega⟩ ⟨newC_okc (by show ms.length<=262144;omega),(newC_is hA yyq).toMayC⟩)
 ·skip
  exact gIe 10 O (λR k0=>gC 0 O (zWq (w':=.bool false) (begun_s l false hb) (by rw[decide_eq_false (h)])) (zbq 13 O (z9q (w':=.tup [chG noC,.int .i64 8]) Qs rfl (noc_view _ 8) rfl (newq_no _ h))))
end
section
attribute [local irreducible] CoW OpW FlW Step Spec
theorem raunew2_s(r:Ru)(l:List Pr)(hb:l.length<=1000000000):PE cfg glK 79 [ruG r,psW l] (AutQ (λA=>OkC A/\MayC A) r l):=by
 by_cases hr:okU r
 ·have hr2:=hr;obtain⟨⟨q1,q2⟩,_⟩:=hr2;have he:=autE_t (l:=l) hr;refine gIe 11 O (λR k0=>gC 0 O (zWq (w':=.bool true) (Yvq r) (by rw[decide_eq_true (hr)])) (gE 9 O (rnew17_sn l hb) ?_));rintro w hw ⟨A,a1,a2,rfl⟩;refine gS 15 O (λh1=>?_) (λh1=>?_)
  ·have h0:bgE l≠0:=by omega
   exact zbq 10 O (z9q (w':=.tup [auG ruZ noV 0,.int .i64 (bgE l)]) Qs rfl (uLq _) (upq _ _ _ _) (QRq _ he h0))
  ·have h0:bgE l=0:=by omega
   obtain⟨fA,pA⟩:=a2 h0;exact gM 9 O (kRq (l:=r.shards.toNat) (c:=r.shards.toNat) O O O O (nat_of Xd) (nat_of Xd) O O (Nat.le_refl _) (by show 24*r.shards.toNat<=_;omega) Xd O O) (zbq 6 O (z9q (w':=.tup [auG r ⟨0,false,0,A⟩ r.shards.toNat,.int .i64 0]) Qs rfl (.tup (.cons (.agg (.cons (.pur Xh) (.cons (.pur Xh) (.cons (.sl (full:=false) (xs:=List.replicate r.shards.toNat shW) rfl (shs_p _) (zkq Xl (List.length_replicate ..).symm rfl) Xi) (.cons (.pur rfl) (.cons (.pur rfl) (.cons (.pur rfl) (.cons (.pur rfl) (.cons (.pur rfl) (.cons (.pur rfl) .nil)))))))))) (.cons (.pur rfl) .nil))) (upq _ _ _ _) ⟨A,r,_,λ_=>⟨hr,fA,pA,rfl,rfl⟩,by rw[he,h0]⟩))
 ·skip
  exact gIe 11 O (λR k0=>gC 0 O (zWq (w':=.bool false) (Yvq r) (by rw[decide_eq_false (hr)])) (zbq 13 O (z9q (w':=.tup [auG ruZ noV 0,.int .i64 8]) Qs rfl (uLq _) (upq _ _ _ _) (QRq _ (autE_f hr) Xl))))
set_option maxRecDepth 100000 in
open Classical in
theorem rbegin_s(r:Ru)(l:List Pr)(hb:l.length<=1000000000)(cs:List Fs)(ws:List Wrk)(hwl:ws.length<=1000000000)(hv:FewC cs ws->∀x∈cs,∀y∈x,y.length<=70368744177664):PE cfg glK 30 [ruG r,psW l,.fz (cs.map flW) 1 false,.fz (ws.map wrG) 35 false] (WldQ (λA=>OkC A/\MayC A) r l cs ws):=by
 by_cases hf:FewC cs ws
 ·have ewr:(ws.map wrG).length=ws.length:=List.length_map _;have hw64:=hf.1.2;have hc8:=hf.1.1;refine gIe 11 O (λR k0=>gE 0 O (raunew2_s r l hb) ?_);rintro w hw ⟨A,q,k,hq,rfl⟩;refine gS 15 O (λh1=>?_) (λh1=>?_)
  ·have h0:autE r l≠0:=by omega
   exact zbq 10 O (z9q (w':=.tup [wdZ,.int .i64 (autE r l)]) Qs rfl (.pur (z2q _)) (z2q _) (.inl ⟨_,v4q h0,h0,rfl⟩))
  ·have h0:autE r l=0:=by omega
   obtain⟨hr,fA,pA,rfl,rfl⟩:=hq h0;obtain⟨⟨s1,s8⟩,_⟩:=id hr;refine gC 7 O (zWq (w':=.bool true) (rfew_s cs ws false false) (by rw[decide_eq_true (hf)])) ?_;refine gLo (α:=Nat) 13 (λi=>i<=ws.length/\∀j x,j<i->ws[j]? =some x->¬BadK x) (λi=>[(12,.int .i64 (i:Int))]) [2,3,4,8,9,10] (λi=>ws.length-i) (0) rfl (⟨Nat.zero_le _,λj x h=>by omega⟩) (λi hI=>?_);obtain⟨g1,g2⟩:=hI;refine gZ 5 O (List.length_map _) ?_;refine gS 3 O (λh2=>?_) (λh2=>?_)
   ·obtain⟨x,hx⟩:∃x,ws[i]? =some x:=⟨_,List.getElem?_eq_getElem Xd⟩
    have hm:=List.mem_of_getElem? hx;skip
    by_cases k1:x.kind<1
    ·exact gP 8 O (zqq (i:=i) O O O O O O O (ziq wrG hx)) (gT 2 O (ltI_iff.2 (k1)) (gO 21 O (zbq 2 O (z9q (w':=.tup [wdZ,.int .i64 2]) Qs rfl (.pur (z2q _)) (z2q _) (.inl ⟨_,wldE_b h0 hf ⟨x,hm,.inl k1⟩,by decide,rfl⟩)))))
    ·by_cases k4:4<x.kind
     ·exact gP 8 O (zqq (i:=i) O O O O O O O (ziq wrG hx)) (gF 2 O (ltI_not.2 (k1)) (gP 3 O (zqq (i:=i) O O O O O O O (ziq wrG hx)) (gT 2 O (ltI_iff.2 (k4)) (gO 14 O (zbq 2 O (z9q (w':=.tup [wdZ,.int .i64 2]) Qs rfl (.pur (z2q _)) (z2q _) (.inl ⟨_,wldE_b h0 hf ⟨x,hm,.inr k4⟩,by decide,rfl⟩)))))))
     ·exact gP 8 O (zqq (i:=i) O O O O O O O (ziq wrG hx)) (gF 2 O (ltI_not.2 (k1)) (gP 3 O (zqq (i:=i) O O O O O O O (ziq wrG hx)) (gF 2 O (ltI_not.2 (k4)) (gA 9 O (i+1) (gAg 2 O (i+1) (⟨by omega,λj y hj hy=>by rcases Nat.lt_succ_iff_lt_or_eq.1 hj with q|rfl;exact g2 j y q hy;have:=Option.some.inj (hx.symm.trans hy);subst this;exact λq=>q.elim k1 k4⟩) Xd)))))
   ·have hbad:¬∃x∈ws,BadK x:=λ⟨x,hx,q⟩=>by
     obtain⟨j,hj⟩:=List.getElem?_of_mem hx;exact g2 j x Yx hj q
    refine gO 2 O (gA 7 O (q.shards.toNat+1) (gM 0 O (kRq (l:=q.shards.toNat+1) (c:=q.shards.toNat+1) O O O O O O O O (Nat.le_refl _) (by show 32*(q.shards.toNat+1)<=_;omega) Xd O O) (zbq 14 O ?_)))
    (refine zLq rfl (step_ap0 (k:=ti160) (e:=35) (news:=ws.map wrG) O O O O O O O O O (jDq ws) (by rw[ewr];show _*56<=_;omega) Xd ?_))
    refine zpq 7 O (uIq (λ_=>xsq (fr2:=[(2,.fz (cs.map flW) 1 false),(13,.ptr 4 0),(8,.ptr 1 0),(9,.int .i64 0)]) ⟨rfl,rfl,rfl,rfl,trivial⟩) (yoq O O ?_))
    refine zpq 3 O ?_;refine yLq (α:=Nat) (λi=>i<=cs.length) (λi=>[(14,.int .i64 (i:Int))]) [(2,_),(8,_),(9,_),(13,_)] (λi=>[(4,93,wdX (ruG q) (.sl 3 0 0 (q.shards.toNat+1) 2 none) (vwG ⟨0,false,0,A⟩) (shsW q.shards.toNat) (gW 6 383 ((cs.take i).map cliW)) (.fz (ws.map wrG) 35 false)),(3,182,.arr ((q.shards.toNat+1)*2) 2 (List.replicate (q.shards.toNat+1) lokZ)),(2,153,auG q ⟨0,false,0,A⟩ q.shards.toNat),(1,93,wdZ),(0,72,ruG q)]++gH 6 175 383 ((cs.take i).map cliW)) (λi=>cs.length-i) (0) ⟨rfl,rfl,rfl,rfl,trivial⟩ (Nat.zero_le _) ⟨rfl,trivial⟩ (rfl) (λi hI=>?_);refine zKq 5 O (gZ 0 O (List.length_map _) ?_);refine gS 3 O (λh3=>?_) (λh3=>?_)
    ·have hi:i<cs.length:=by omega
     obtain⟨x,hx⟩:∃x,cs[i]? =some x:=⟨_,List.getElem?_eq_getElem hi⟩
     have hxm:=List.mem_of_getElem? hx;have el:((cs.take i).map cliW).length=i:=by simp;omega
     have es:(cs.take (i+1)).map cliW=(cs.take i).map cliW++[cliW x]:=by rw[List.take_add_one,hx,List.map_append];rfl
     have ep:purL ((cs.take i).map cliW++[cliW x])=true:=by rw[<-es];exact qSq _
     refine gM 6 O (zXq O O O (w_get _ _ _ _ _ _ _ _)) (gP 2 O (zqq (i:=i) O O O O O O O (ziq flW hx)) (gC 1 O (rframes_s x false (by have:=hf.2 x hxm;omega) (hv hf x hxm)) (zbq 2 O (xoq rfl (z6q O O (jjq [_,_,_,_,_,_] (k:=ti175) (news:=[cliW x]) O O O O O (yzq O O O O) Xh (by show(((cs.take i).map cliW).length+1)*680<=_;omega) (by show((cs.take i).map cliW).length+1<=_;omega) rfl Xh)) (evs_G Xt Xt) (jmq O O ?_)))));refine xoq rfl (qpq O O O O O (w_put _ _ _ _ _ _ _ _ _ _) rfl) (by generalize (cs.take i).map cliW=L;cases L<;>first|rfl|kernel_rfl) ?_;refine ykq 5 O (gA 0 O (i+1) (zbq 2 O ?_));skip
     refine y7q (i+1) hi Xd ?_;simp only;have hPp:purW (.fz (cs.map flW) 1 false)=true:=fls_pur cs;have hne:(cs.take i).map cliW++[cliW x]≠[]:=List.append_ne_nil_of_right_ne_nil _ Xh;rw[es,ubq hne,ucq hne];refine yKq (b:=6) (k:=8) Xd Xd Xd ⟨⟨rfl,rfl⟩,⟨by rw[ztq hPp];rfl,zdq hPp⟩,⟨rfl,rfl⟩,⟨rfl,rfl⟩,⟨rfl,rfl⟩,trivial⟩ ⟨⟨by omega,?_,?_⟩,⟨by omega,?_,zdq (show purL (List.replicate _ lokZ)=true from jpq _)⟩,⟨by omega,?_,zdq (QSq _ _ _)⟩,⟨by omega,?_,zdq v5q⟩,⟨by omega,?_,zdq (jIq _)⟩,⟨by omega,?_,zdq ep⟩,trivial⟩ Xh
     ·rw[ren_wd];rfl
     ·exact ref_wd _ _ _ _ _ _ _ _ _ Xd Xd
     ·rw[ztq (show purW (.arr _ 2 (List.replicate _ lokZ))=true from jpq _)];rfl
     ·rw[ztq (QSq _ _ _)];rfl
     ·rw[ztq v5q];rfl
     ·rw[ztq (jIq _)];rfl
     ·rw[ztq (show purW (.arr _ 383 _)=true from ep)];rfl
    ·have hi:i=cs.length:=by omega
     subst hi;rw[List.take_length];exact zbq 2 O (qbq Xi (z0q 10 O (z9q (w':=.tup [wdG q (q.shards.toNat+1) ⟨0,false,0,A⟩ q.shards.toNat cs ws,.int .i64 0]) Qs rfl (.tup (.cons (.agg (.cons (.pur (jIq _)) (.cons (.sl (full:=false) (c:=.arr ((q.shards.toNat+1)*2) 2 (List.replicate (q.shards.toNat+1) lokZ)) rfl (jpq _) (zkq Xl Xh rfl) Xi) (.cons (.pur (xXq _)) (.cons (.pur (kEq _)) (.cons (.pur rfl) (.cons (utq (H0:=[_,_,_,_,_]) (b:=6) (e:=383) (ty:=175) Xl (qSq cs) Xh) (.cons (.pur uiq) (.cons (.pur (show purW (.fz (ws.map wrG) 35 false)=true from jDq ws)) (.cons (.pur rfl) (.cons (.pur rfl) .nil))))))))))) (.cons (.pur rfl) .nil))) (by show(purW (wdG _ _ _ _ _ _)&&_)=true;rw[jEq];rfl) (.inr ⟨wldE_0 h0 hf hbad,hf,hr,A,fA,pA,rfl⟩))))
 ·skip
  refine gIe 11 O (λR k0=>gE 0 O (raunew2_s r l hb) ?_);rintro w hw ⟨A,q,k,hq,rfl⟩;refine gS 15 O (λh1=>?_) (λh1=>?_)
  ·have h0:autE r l≠0:=by omega
   exact zbq 10 O (z9q (w':=.tup [wdZ,.int .i64 (autE r l)]) Qs rfl (.pur (z2q _)) (z2q _) (.inl ⟨_,v4q h0,h0,rfl⟩))
  ·have h0:autE r l=0:=by omega
   exact gC 7 O (zWq (w':=.bool false) (rfew_s cs ws false false) (by rw[decide_eq_false (hf)])) (zbq 13 O (z9q (w':=.tup [wdZ,.int .i64 4]) Qs rfl (.pur (z2q _)) (z2q _) (.inl ⟨_,wldE_f h0 hf,by decide,rfl⟩)))
end
end
end Go.Proofs.YtfliaigjcadegabGreatDoor
