/-
  What the proof of CallBegins stands on, part 8. No condition.
-/
import Derived.Test.YtfliaigjcadegabGreatDoorZCallBeginsG
set_option linter.unusedSimpArgs false
set_option linter.unusedVariables false
namespace Go.Proofs.YtfliaigjcadegabGreatDoor
section
open Go.RowKit
section
attribute [local irreducible] CoW OpW FlW Step Spec
attribute [local simp] jpq
noncomputable def prz:W:=.agg 67 [z32,.int .u8 0,z32,.nils,.nils]
set_option maxRecDepth 100000 in
theorem eqi0_s:PS cfg glK 162 [.nils,.nils] (.bool true):=by
 refine gI 9 O (λR k0=>gL 0 O (gL 1 O (gL 10 O ?_)));refine gLo (α:=Nat) 4 (λi=>i=0) (λi=>[(13,.int .i64 (i:Int))]) [0,1,4,12] (λi=>0) (0) rfl (rfl) (λi hI=>?_);subst hI;exact gO 9 O (gQa 8 O)
set_option maxRecDepth 100000 in
theorem lokz_s :PS cfg glK 84 [lokZ,lokZ] (.bool true):=by
 exact gI 19 O (λR k0=>gC 0 O (eqi0_s) (gQa 5 O))
set_option maxRecDepth 100000 in
theorem eflk_s(n:Nat)(hn:n<=1000000):PS cfg glK 83 [.fz (List.replicate n lokZ) 2 false,.fz (List.replicate n lokZ) 2 false,.fn 84 [] []] (.bool true):=by
 have e:(List.replicate n lokZ).length=n:=by simp
 refine gI 9 O (λR k0=>gZ 0 O e (gZ 1 O e (gF 0 O (congrArg not (eqI_iff.2 (rfl))) (gZ 9 O e ?_))));refine gLo (α:=Nat) 4 (λi=>i<=n) (λi=>[(17,.int .i64 (i:Int))]) [1,2,6,15,16] (λi=>n-i) (0) rfl (Nat.zero_le _) (λi hI=>?_);refine gS 6 O (λh1=>?_) (λh1=>?_)
 ·have hi:i<n:=by omega
  have hx:(List.replicate n lokZ)[i]? =some lokZ:=by rw[List.getElem?_replicate,if_pos hi]
  exact gP 7 O (zqq (i:=i) O O O O O O O hx) (gP 10 O (zqq (i:=i) O O O O O O O hx) (gC 10 O (lokz_s) (gA 8 O (i+1) (gAg 2 O (i+1) (hi) Xd))))
 ·exact gO 2 O (gQa 8 O)
set_option maxRecDepth 100000 in
theorem eqd0_s:PS cfg glK 296 [.nils,.nils] (.bool true):=by
 refine gI 9 O (λR k0=>gL 0 O (gL 1 O (gL 10 O ?_)));refine gLo (α:=Nat) 4 (λi=>i=0) (λi=>[(13,.int .i64 (i:Int))]) [0,1,4,12] (λi=>0) (0) rfl (rfl) (λi hI=>?_);subst hI;exact gO 9 O (gQa 8 O)
set_option maxRecDepth 100000 in
theorem przsame_s :PS cfg glK 240 [prz,prz] (.bool true):=by
 exact gI 33 O (λR k0=>gC 0 O (yOq (.cons .nilfz (.cons .nilfz .nil)) (zWq (w':=.bool true) (seqb_s [] [] false false Xh) Ya)) (gC 6 O (eqd0_s) (gQa 5 O)))
set_option maxRecDepth 100000 in
theorem rpzsame_s:PS cfg glK 171 [rpZ,rpZ] (.bool true):=by
 exact gI 14 O (λR k0=>gC 0 O (przsame_s) (gQa 66 O))
set_option maxRecDepth 100000 in
theorem effr_s(l:Fs)(hl:∀x∈l,x.length<=1000000000)(hn:l.length<=1000000):PS cfg glK 169 [.fz (l.map bW) 1 false,.fz (l.map bW) 1 false,.fn 170 [] []] (.bool true):=by
 have e:(l.map bW).length=l.length:=by simp
 have ep:purL (l.map bW)=true:=kYq l;refine gI 9 O (λR k0=>gZ 0 O e (gZ 1 O e (gF 0 O (congrArg not (eqI_iff.2 (rfl))) (gZ 9 O e ?_))));refine gLo (α:=Nat) 4 (λi=>i<=l.length) (λi=>[(17,.int .i64 (i:Int))]) [1,2,6,15,16] (λi=>l.length-i) (0) rfl (Nat.zero_le _) (λi hI=>?_);refine gS 6 O (λh1=>?_) (λh1=>?_)
 ·have hi:i<l.length:=by omega
  obtain⟨x,hx0⟩:∃x,l[i]? =some x:=⟨_,List.getElem?_eq_getElem hi⟩
  have hx:=ziq bW hx0;exact gP 7 O (zqq (i:=i) O O O O O O O hx) (gP 9 O (zqq (i:=i) O O O O O O O hx) (gC 9 O (zWq (w':=.bool true) (seqb_s x x false false (hl x (List.mem_of_getElem? hx0))) Ya) (gA 8 O (i+1) (gAg 2 O (i+1) (hi) Xd))))
 ·exact gO 2 O (gQa 8 O)
noncomputable def vwZ:Vw:=⟨0,false,0,⟨⟨[],0⟩,[]⟩⟩
theorem xhq{blk:Nat->Option W}:View blk noVw (vwG vwZ):=.agg (.cons (.pur rfl) (.cons (.pur rfl) (.cons (.pur rfl) (.cons (.agg (.cons (.agg (.cons .nilfz (.cons (.pur rfl) .nil))) (.cons .nilfz .nil))) .nil))))
theorem v8q:SmallC vwZ.ch:=⟨by simp[vwZ],λx h=>by simp[vwZ] at h,by simp[vwZ],λx h=>by simp[vwZ] at h⟩
theorem novw_s:PS cfg glK 85 [noVw,noVw] (.bool true):=yOq (.cons xhq (.cons xhq .nil)) (zWq (w':=.bool true) (vsame_s vwZ vwZ v8q (λx h=>by simp[vwZ] at h)) Ya)
set_option maxRecDepth 100000 in
theorem clisame_s(l:Fs)(hl:∀x∈l,x.length<=1000000000)(hll:l.length<=1000000):PS cfg glK 89 [cliW l,cliW l] (.bool true):=by
 exact gI 13 O (λR k0=>gC 0 O (effr_s l hl hll) (gC 26 O (novw_s) (gC 6 O (rpzsame_s) (gQa 5 O))))
set_option maxRecDepth 100000 in
theorem efcl_s(cs:List Fs)(hc:∀l∈cs,l.length<=1000000/\∀x∈l,x.length<=1000000000)(hn:cs.length<=1000000):PS cfg glK 88 [.fz (cs.map cliW) 383 false,.fz (cs.map cliW) 383 false,.fn 89 [] []] (.bool true):=by
 have e:(cs.map cliW).length=cs.length:=by simp
 have ep:=qSq cs;refine gI 9 O (λR k0=>gZ 0 O e (gZ 1 O e (gF 0 O (congrArg not (eqI_iff.2 (rfl))) (gZ 9 O e ?_))));refine gLo (α:=Nat) 4 (λi=>i<=cs.length) (λi=>[(17,.int .i64 (i:Int))]) [1,2,6,15,16] (λi=>cs.length-i) (0) rfl (Nat.zero_le _) (λi hI=>?_);refine gS 6 O (λh1=>?_) (λh1=>?_)
 ·have hi:i<cs.length:=by omega
  obtain⟨x,hx0⟩:∃x,cs[i]? =some x:=⟨_,List.getElem?_eq_getElem hi⟩
  have hx:=ziq cliW hx0;exact gP 7 O (zqq (i:=i) O O O O O O O hx) (gP 10 O (zqq (i:=i) O O O O O O O hx) (gC 10 O (clisame_s x (hc x (List.mem_of_getElem? hx0)).2 (hc x (List.mem_of_getElem? hx0)).1) (gA 8 O (i+1) (gAg 2 O (i+1) (hi) Xd))))
 ·exact gO 2 O (gQa 8 O)
set_option maxRecDepth 100000 in
theorem efln_s:PS cfg glK 237 [.nils,.nils,.fn 238 [] []] (.bool true):=by
 refine gI 9 O (λR k0=>gL 0 O (gL 1 O (gL 10 O ?_)));refine gLo (α:=Nat) 4 (λi=>i=0) (λi=>[(17,.int .i64 (i:Int))]) [1,2,6,15,16] (λi=>0) (0) rfl (rfl) (λi hI=>?_);subst hI;exact gO 9 O (gQa 8 O)
set_option maxRecDepth 100000 in
theorem shdsame_s :PS cfg glK 165 [shW,shW] (.bool true):=by
 exact gI 13 O (λR k0=>gC 0 O (efln_s) (gQa 4 O))
set_option maxRecDepth 100000 in
theorem efsh_s(k:Nat)(hn:k<=1000000):PS cfg glK 164 [.fz (List.replicate k shW) 1 false,.fz (List.replicate k shW) 1 false,.fn 165 [] []] (.bool true):=by
 have e:(List.replicate k shW).length=k:=by simp
 refine gI 9 O (λR k0=>gZ 0 O e (gZ 1 O e (gF 0 O (congrArg not (eqI_iff.2 (rfl))) (gZ 9 O e ?_))));refine gLo (α:=Nat) 4 (λi=>i<=k) (λi=>[(17,.int .i64 (i:Int))]) [1,2,6,15,16] (λi=>k-i) (0) rfl (Nat.zero_le _) (λi hI=>?_);refine gS 6 O (λh1=>?_) (λh1=>?_)
 ·have hi:i<k:=by omega
  have hx:(List.replicate k shW)[i]? =some shW:=by rw[List.getElem?_replicate,if_pos hi]
  exact gP 7 O (zqq (i:=i) O O O O O O O hx) (gP 10 O (zqq (i:=i) O O O O O O O hx) (gC 10 O (shdsame_s) (gA 8 O (i+1) (gAg 2 O (i+1) (hi) Xd))))
 ·exact gO 2 O (gQa 8 O)
set_option maxRecDepth 100000 in
theorem poolsame_s(k:Nat)(hk:k<=1000000):PS cfg glK 86 [shsW k,shsW k] (.bool true):=by
 exact gI 9 O (λR k0=>gC 0 O (efsh_s k hk) (gQa 4 O))
set_option maxRecDepth 100000 in
theorem efsb_s:PS cfg glK 166 [.nils,.nils,.fn 167 [] []] (.bool true):=by
 refine gI 9 O (λR k0=>gL 0 O (gL 1 O (gL 10 O ?_)));refine gLo (α:=Nat) 4 (λi=>i=0) (λi=>[(17,.int .i64 (i:Int))]) [1,2,6,15,16] (λi=>0) (0) rfl (rfl) (λi hI=>?_);subst hI;exact gO 9 O (gQa 8 O)
set_option maxRecDepth 100000 in
theorem hubsame_s :PS cfg glK 87 [hub0,hub0] (.bool true):=by
 exact gI 19 O (λR k0=>gC 0 O (efsb_s) (gQa 5 O))
set_option maxRecDepth 100000 in
theorem exsame_s :PS cfg glK 90 [exZ,exZ] (.bool true):=by
 exact gI 26 O (λR k0=>gC 0 O (yOq (.cons .nilfz (.cons .nilfz .nil)) (zWq (w':=.bool true) (seqx_s [] [] false false Xh) Ya)) (gC 6 O (yOq (.cons .nilfz (.cons .nilfz .nil)) (zWq (w':=.bool true) (seqx_s [] [] false false Xh) Ya)) (gC 6 O (yOq (.cons .nilfz (.cons .nilfz .nil)) (zWq (w':=.bool true) (seqd_s [] [] false false Xh) Ya)) (gQa 19 O))))
theorem eq_wr(x:Wrk):eqW cfg 300 160 (wrG x) (wrG x)=some true:=by
 have h:eqW cfg 300 160 (wrG x) (wrG x)=some (decide (x.kind=x.kind)&&(decide (x.to=x.to)&&(decide (x.amount=x.amount)&&(decide (x.height=x.height)&&true)))):=
  jSq O O O O (zFq O O O (qqq O O) (zFq O O O (ywq O O O O O O _ _ _) (zFq O O O (qqq O O) (zFq O O O (qqq O O) kVq))))
 rw[h];simp
set_option maxRecDepth 100000 in
theorem eqwk_s(l:List Wrk)(hl:l.length<=1000000):PS cfg glK 91 [.fz (l.map wrG) 35 false,.fz (l.map wrG) 35 false] (.bool true):=by
 have e:(l.map wrG).length=l.length:=List.length_map _;have ep:=jDq l;refine gI 9 O (λR k0=>gZ 0 O e (gZ 1 O e (gF 0 O (congrArg not (eqI_iff.2 (rfl))) (gZ 9 O e ?_))));refine gLo (α:=Nat) 4 (λi=>i<=l.length) (λi=>[(13,.int .i64 (i:Int))]) [0,1,4,12] (λi=>l.length-i) (0) rfl (Nat.zero_le _) (λi hI=>?_);refine gS 6 O (λh1=>?_) (λh1=>?_)
 ·have hi:i<l.length:=by omega
  obtain⟨x,hx⟩:∃x,l[i]? =some x:=⟨_,List.getElem?_eq_getElem hi⟩
  exact gP 14 O (zqq (i:=i) O O O O O O O (ziq wrG hx)) (gP 3 O (zqq (i:=i) O O O O O O O (ziq wrG hx)) (zbq 1 O (vDq (w':=.bool false) rfl (q4q O O O O (eq_wr x)) O (ykq 7 O (gA 0 O (i+1) (gAg 2 O (i+1) (hi) Xd))))))
 ·exact gO 2 O (gQa 8 O)
set_option maxRecDepth 100000 in
theorem eftr_s:PS cfg glK 92 [.nils,.nils,.fn 93 [] []] (.bool true):=by
 refine gI 9 O (λR k0=>gL 0 O (gL 1 O (gL 10 O ?_)));refine gLo (α:=Nat) 4 (λi=>i=0) (λi=>[(17,.int .i64 (i:Int))]) [1,2,6,15,16] (λi=>0) (0) rfl (rfl) (λi hI=>?_);subst hI;exact gO 9 O (gQa 8 O)
theorem eq_ru(r:Ru):eqW cfg 300 72 (ruG r) (ruG r)=some true:=by
 have h:eqW cfg 300 72 (ruG r) (ruG r)=some (decide (r.shards=r.shards)&&(decide (r.cap=r.cap)&&(decide (r.block=r.block)&&(decide (r.window=r.window)&&(decide (r.tap=r.tap)&&(decide (r.subs=r.subs)&&(decide (r.box=r.box)&&true))))))):=
  jSq O O O O (zFq O O O (qqq O O) (zFq O O O (qqq O O) (zFq O O O (qqq O O) (zFq O O O (qqq O O) (zFq O O O (qqq O O) (zFq O O O (qqq O O) (zFq O O O (ywq O O O O O O _ _ _) kVq)))))))
 rw[h];simp
set_option maxRecDepth 100000 in
theorem wsame_s(r:Ru)(n:Nat)(v:Vw)(k:Nat)(cs:List Fs)(ws:List Wrk)(hc:∀l∈cs,l.length<=1000000/\∀x∈l,x.length<=1000000000)(hn:n<=1000000)(hk:k<=1000000)(hcl:cs.length<=1000000)(hw:ws.length<=1000000)(hv:PS cfg glK 85 [vwG v,vwG v] (.bool true)):PS cfg glK 32 [wdG r n v k cs ws,wdG r n v k cs ws] (.bool true):=by
 exact gI 13 O (λR k0=>xfq (w':=.bool true) rfl (yaq O O O O (eq_ru r)) O (zpq 5 O (gC 0 O (eflk_s n hn) (gC 6 O (hv) (gC 6 O (poolsame_s k hk) (gC 6 O (hubsame_s) (gC 12 O (efcl_s cs hc hcl) (gC 6 O (exsame_s) (gC 6 O (eqwk_s ws hw) (gC 6 O (yOq (.cons .nilfz (.cons .nilfz .nil)) (eqwk_s [] Xh)) (gC 6 O (eftr_s) (gQa 5 O))))))))))))
set_option maxRecDepth 100000 in
theorem cl0i:PS cfg glK 178 [.nils] .nils:=by
 refine x3q (fn:=Tryz.f178) O O O (Ob rfl) (λR k0=>?_);skip
 exact zKq 20 O (gQa 0 O)
set_option maxRecDepth 100000 in
theorem cl0l:PS cfg glK 241 [.nils] .nils:=by
 refine x3q (fn:=Tryz.f241) O O O (Ob rfl) (λR k0=>?_);skip
 exact zKq 20 O (gQa 0 O)
set_option maxRecDepth 100000 in
theorem cl0s:PS cfg glK 176 [.nils] .nils:=by
 refine x3q (fn:=Tryz.f176) O O O (Ob rfl) (λR k0=>?_);skip
 exact zKq 20 O (gQa 0 O)
set_option maxRecDepth 100000 in
theorem cl0t:PS cfg glK 100 [.nils] .nils:=by
 refine x3q (fn:=Tryz.f100) O O O (Ob rfl) (λR k0=>?_);skip
 exact zKq 20 O (gQa 0 O)
set_option maxRecDepth 100000 in
theorem cl0d:PS cfg glK 179 [.nils] .nils:=by
 refine x3q (fn:=Tryz.f179) O O O (Ob rfl) (λR k0=>?_);skip
 exact zKq 20 O (gQa 0 O)
set_option maxRecDepth 100000 in
theorem cl0b:PS cfg glK 104 [.nils] .nils:=by
 refine x3q (fn:=Tryz.f104) O O O (Ob rfl) (λR k0=>?_);skip
 exact zKq 20 O (gQa 0 O)
set_option maxRecDepth 100000 in
theorem cl0x:PS cfg glK 102 [.nils] .nils:=by
 refine x3q (fn:=Tryz.f102) O O O (Ob rfl) (λR k0=>?_);skip
 exact zKq 20 O (gQa 0 O)
set_option maxRecDepth 100000 in
theorem cl0p:PS cfg glK 103 [.nils] .nils:=by
 refine x3q (fn:=Tryz.f103) O O O (Ob rfl) (λR k0=>?_);skip
 exact zKq 20 O (gQa 0 O)
set_option maxRecDepth 100000 in
theorem cl0w:PS cfg glK 77 [.nils] .nils:=by
 refine x3q (fn:=Tryz.f77) O O O (Ob rfl) (λR k0=>?_);skip
 exact zKq 20 O (gQa 0 O)
set_option maxRecDepth 100000 in
theorem cl0n:PS cfg glK 131 [.nils] .nils:=by
 refine x3q (fn:=Tryz.f131) O O O (Ob rfl) (λR k0=>?_);skip
 exact zKq 20 O (gQa 0 O)
set_option maxRecDepth 100000 in
theorem ltw:PS cfg glK 98 [lokZ] (lokZ):=by
 exact gI 10 O (λR k0=>gC 0 O (cl0i) (gQa 11 O))
set_option maxRecDepth 100000 in
theorem shtw:PS cfg glK 175 [shW] (shW):=by
 refine gI 10 O (λR k0=>gC 0 O (cl0l) (gL 10 O ?_));refine gLo (α:=Nat) 4 (λi=>i=0) (λi=>[(12,.int .i64 (i:Int))]) [2,3,11] (λi=>0) (0) rfl (rfl) (λi hI=>?_);subst hI;exact gO 9 O (gQa 9 O)
set_option maxRecDepth 100000 in
theorem hbtw:PS cfg glK 97 [hub0] (hub0):=by
 refine gI 10 O (λR k0=>gC 0 O (cl0s) (gL 9 O ?_));refine gLo (α:=Nat) 4 (λi=>i=0) (λi=>[(11,.int .i64 (i:Int))]) [1,2,10] (λi=>0) (0) rfl (rfl) (λi hI=>?_);subst hI;exact gO 9 O (gQa 9 O)
set_option maxRecDepth 100000 in
theorem rptw:PS cfg glK 101 [rpZ] (rpZ):=by
 exact gI 11 O (λR k0=>gC 0 O (cl0b) (gC 3 O (cl0d) (gQa 15 O)))
set_option maxRecDepth 100000 in
theorem trtw0:PS cfg glK 62 [.agg 2 [.nils,.int .i64 0]] (.agg 2 [.nils,.int .i64 0]):=by
 refine gI 10 O (λR k0=>gC 0 O (cl0n) (gL 9 O ?_));refine gLo (α:=Nat) 4 (λi=>i=0) (λi=>[(11,.int .i64 (i:Int))]) [1,2,10] (λi=>0) (0) rfl (rfl) (λi hI=>?_);subst hI;exact gO 9 O (gQa 9 O)
set_option maxRecDepth 100000 in
theorem trn0:PS cfg glK 180 [.nils,.fn 109 [] []] .nils:=by
 refine gI 14 O (λR k0=>gL 0 O ?_);refine gLo (α:=Nat) 4 (λi=>i=0) (λi=>[(9,.int .i64 (i:Int))]) [1,4,5,8,10] (λi=>0) (0) rfl (rfl) (λi hI=>?_);subst hI;exact gO 9 O (gQa 9 O)
set_option maxRecDepth 100000 in
theorem chtw0:PS cfg glK 108 [noCh] (noCh):=by
 exact gI 10 O (λR k0=>gC 0 O (trtw0) (gC 2 O (trn0) (gQa 5 O)))
set_option maxRecDepth 100000 in
theorem vwtw0:PS cfg glK 95 [noVw] (noVw):=by
 exact gI 10 O (λR k0=>gC 0 O (chtw0) (gQa 11 O))
set_option maxRecDepth 100000 in
theorem pltw(k:Nat)(hk:k<=1000000):PS cfg glK 96 [shsW k] (shsW k):=by
 have e:(List.replicate k shW).length=k:=by simp
 refine gIv 14 O (λR k0=>gZ 0 O e (zbq 4 O ?_));refine QOq (α:=Nat) (λi=>i<=k) 3 (λi=>List.replicate i shW) 272 1 (λi=>[(8,.int .i64 (i:Int))]) [(2,_),(6,_),(7,_)] _ (λi=>k-i) (0) ⟨rfl,rfl,rfl,trivial⟩ (Nat.zero_le _) ⟨rfl,trivial⟩ O O O (λi hI=>?_);refine zKq 6 O ?_;refine gS 0 O (λh1=>?_) (λh1=>?_)
 ·have hi:i<k:=by omega
  have hx:(List.replicate k shW)[i]? =some shW:=by rw[List.getElem?_replicate,if_pos hi]
  have el:(List.replicate i shW).length=i:=by simp
  have es:List.replicate (i+1) shW=List.replicate i shW++[shW]:=List.replicate_succ';have ep:=shs_p i;have ep2:purL (List.replicate i shW++[shW])=true:=by rw[<-es];exact shs_p _
  exact gP 6 O (zqq (i:=i) O O O O O O O hx) (gC 8 O (shtw) (gM 1 O (z6q O O (jjq [_,_] (k:=ti272) (news:=[shW]) O O O O O (yzq O O O O) Xh (by show((List.replicate i shW).length+1)*24<=_;omega) (by show(List.replicate i shW).length+1<=_;omega) rfl Xh)) (gA 5 O (i+1) (zbq 2 O (kJq 3 (i+1) (hi) Xd (Nat.zero_le _) (es) Xy Xd Ym rfl Yc ⟨rfl,trivial⟩ ⟨rfl,rfl,rfl,trivial⟩ Xg Xg rfl Xk Xj Yf)))))
 ·obtain rfl:i=k:=by omega
  exact zbq 2 O (qbq Xi (z0q 9 O (jZq Xo O (utq (H0:=[]) Xl (shs_p _) Xh))))
noncomputable def lokA(n:Nat):W:=.arr (n*2) 2 (List.replicate n lokZ)
theorem Qsq(n:Nat):purW (lokA n)=true:=jpq n
theorem lkcl_s(n:Nat)(h2n:2<=n)(hn2:n<=1000000):qoq cfg glK 94 0 [.fz (List.replicate n lokZ) 2 false] [] λw hp nw=>w= .sl 0 0 0 n 2 none/\hp=[(0,182,lokA n)]/\nw=1:=by
 intro R;have e:(List.replicate n lokZ).length=n:=by simp
 have hne:List.replicate n lokZ≠[]:=λq=>by rw[q] at e;simp at e;omega
 refine gIs 9 O (λk0=>?_);first|refine yoq O O ?_|refine zLq rfl (jqq O O O O O (λbn hn=>?_))
 refine zpq 2 O ?_;refine gS 0 O (λh1=>?_) (λh1=>?_)
 ·skip
  cases bn with
  |false=>cases h1
  |true=>exact absurd (hn rfl) hne
 ·refine gM 6 O (z6q O O (yZq (len:=0) (news:=List.replicate n lokZ) (olds:=[]) (k:=ti182) O O O O O hne (by show(0+(List.replicate n lokZ).length)*32<=_;rw[e];omega) Qd rfl (by show 0<0+(0+(List.replicate n lokZ).length)*2;rw[e];omega) O O)) (zbq 4 O ?_);refine fin Qs (yKq (b:=0) (k:=1) (fr2:=[(2,.sl 0 0 0 n 2 none)]) (hp2:=[(0,182,lokA n)]) Xd Xd (by show 1<2;omega) ⟨⟨?_,rfl⟩,trivial⟩ ⟨⟨by omega,?_,zdq (Qsq n)⟩,trivial⟩ Xh) rfl ⟨rfl,rfl,rfl,rfl⟩
  ·show some (W.sl 1 0 0 (0+(List.replicate n lokZ).length) 2 none)=some (W.sl 1 0 0 n 2 none);rw[e,Nat.zero_add]
  ·rw[ztq (Qsq n)];show some (182,W.arr ((0+(List.replicate n lokZ).length)*2) 2 ([]++List.replicate n lokZ))=some (182,lokA n);rw[e,Nat.zero_add];rfl
noncomputable def clA(cs:List Fs):W:=.arr (cs.length*383) 383 (cs.map cliW)
theorem clA_pur(cs:List Fs):purW (clA cs)=true:=qSq cs
theorem clcl_s(l:List Fs)(hl:l.length<=1000000):qoq cfg glK 99 0 [.fz (l.map cliW) 383 false] [] λw hp nw=>
  (l=[]/\w= .nils/\hp=[]/\nw=0)\/(w= .sl 0 0 0 l.length 383 none/\hp=[(0,175,clA l)]/\nw=1):=by
 intro R;have e:(l.map cliW).length=l.length:=List.length_map _;have hpp:=clA_pur l;refine gIs 9 O (λk0=>?_);first|refine yoq O O ?_|refine zLq rfl (jqq O O O O O (λbn hn=>?_))
 refine zpq 2 O ?_;refine gS 0 O (λh1=>?_) (λh1=>?_)
 ·cases bn with
  |false=>cases h1
  |true=>
   obtain rfl:l=[]:=List.map_eq_nil_iff.1 (hn rfl);exact ycq 7 O (fin Qs Ent.refl rfl ⟨rfl,.inl ⟨rfl,rfl,rfl,rfl⟩⟩)
 ·cases l with
  |nil=>
   skip
   exact ycq 6 O (gM 0 O (z6q O O (joq O O O O O)) (zbq 4 O (fin Qs Ent.refl rfl ⟨rfl,.inr ⟨rfl,rfl,rfl⟩⟩)))
  |cons c l=>
   refine ycq 6 O (gM 0 O (z6q O O (yZq (len:=0) (news:=(c::l).map cliW) (olds:=[]) (k:=ti175) O O O O O Xh (by show(0+((c::l).map cliW).length)*680<=_;rw[e];omega) Qd rfl (by show 0<0+(0+((c::l).map cliW).length)*383;rw[e];simp only[List.length_cons];omega) O O)) (zbq 4 O ?_));refine fin Qs (yKq (b:=0) (k:=1) (fr2:=[(2,.sl 0 0 0 (c::l).length 383 none)]) (hp2:=[(0,175,clA (c::l))]) Xd Xd (by show 1<2;omega) ⟨⟨?_,rfl⟩,trivial⟩ ⟨⟨by omega,?_,zdq hpp⟩,trivial⟩ Xh) rfl ⟨rfl,.inr ⟨rfl,rfl,rfl⟩⟩
   ·show some (W.sl 1 0 0 (0+((c::l).map cliW).length) 383 none)=some (W.sl 1 0 0 (c::l).length 383 none);rw[e,Nat.zero_add]
   ·rw[ztq hpp];show some (175,W.arr ((0+((c::l).map cliW).length)*383) 383 ([]++(c::l).map cliW))=some (175,clA (c::l));rw[e,Nat.zero_add];rfl
theorem lk_ne{n i:Nat}(hn:2<=n):(Nat.beq (0+i*2+0) 0&&Nat.beq 2 (n*2)&&true==true)=false:=by
 have:Nat.beq 2 (n*2)=false:=by
  cases h:Nat.beq 2 (n*2) with
  |false=>rfl
  |true=>have:=Nat.eq_of_beq_eq_true h;omega
 rw[this];simp
theorem lk_get{n i:Nat}(hn:2<=n)(h:i<n):zVq 50 (lokA n) (0+i*2+0) 2 true=some lokZ:=get_in (x:=lokZ) (by rw[List.getElem?_replicate,if_pos h]) Xd Xd (lk_ne hn) rfl
theorem lk_put{n i:Nat}(hn:2<=n)(h:i<n):yMq 50 (lokA n) (0+i*2+0) lokZ=some (lokA n):=by
 have hx:(List.replicate n lokZ)[i]? =some lokZ:=by rw[List.getElem?_replicate,if_pos h]
 rw[lokA,put_in (x':=lokZ) hx Xd Xd (lk_ne hn) rfl,vRq hx]
theorem cl_ne{m j off k:Nat}{a:Bool}(h1:j<m)(hk:k<383)(h0:0<k):(Nat.beq (0+j*383+off) 0&&Nat.beq k (m*383)&&a)=false:=by
 have:Nat.beq k (m*383)=false:=by
  cases h:Nat.beq k (m*383) with
  |false=>rfl
  |true=>have:=Nat.eq_of_beq_eq_true h;omega
 rw[this];simp
theorem cl_get{cs:List Fs}{j off k:Nat}{ag:Bool}{x:Fs}{y:W}(hx:cs[j]? =some x)(ho:off<383)(hk:k<383)(h0:0<k)(hg:zVq 49 (cliW x) off k ag=some y):zVq 50 (clA cs) (0+j*383+off) k ag=some y:=
 get_in (ziq cliW hx) Xd ho (cl_ne (List.getElem?_eq_some_iff.1 hx).1 hk h0) hg
theorem cl_put{cs:List Fs}{j off:Nat}{x:Fs}{y:W}(hx:cs[j]? =some x)(ho:off<383)(hk:y.size<383)(h0:0<y.size)(hg:yMq 49 (cliW x) off y=some (cliW x)):yMq 50 (clA cs) (0+j*383+off) y=some (clA cs):=by
 have h1:=ziq cliW hx;rw[clA,put_in (x':=cliW x) h1 Xd ho (cl_ne (List.getElem?_eq_some_iff.1 hx).1 hk h0) hg,vRq h1]
theorem cl_g0(x:Fs):zVq 49 (cliW x) 0 1 false=some (flW x):=by kernel_rfl
theorem cl_g1(x:Fs):zVq 49 (cliW x) 137 6 true=some noVw:=by kernel_rfl
theorem cl_g2(x:Fs):zVq 49 (cliW x) 143 240 true=some rpZ:=by kernel_rfl
theorem cl_p0(x:Fs):yMq 49 (cliW x) 0 (flW x)=some (cliW x):=by kernel_rfl
theorem cl_p1(x:Fs):yMq 49 (cliW x) 137 noVw=some (cliW x):=by kernel_rfl
theorem cl_p2(x:Fs):yMq 49 (cliW x) 143 rpZ=some (cliW x):=by kernel_rfl
set_option maxHeartbeats 1000000 in
set_option maxRecDepth 100000 in
theorem wtwin_s(r:Ru)(n:Nat)(v:Vw)(k:Nat)(cs:List Fs)(ws:List Wrk)(hn:2<=n)(hn2:n<=1000000)(hk:k<=1000000)(hcl:cs.length<=1000000)(hc:∀l∈cs,l.length<=1000000/\∀x∈l,x.length<=70368744177664)(hw:ws.length<=1000000)(hv:PS cfg glK 95 [vwG v] (vwG v)):PS cfg glK 34 [wdG r n v k cs ws] (wdG r n v k cs ws):=by
 have elk:(List.replicate n lokZ).length=n:=by simp
 have ecl:(cs.map cliW).length=cs.length:=List.length_map _;have pcl:=qSq cs;refine gIv 10 O (λR k0=>?_);skip
 refine gSf 0 O (jbq O O O O O (by simp[purL,purW]) (lkcl_s n hn hn2) ?_);rintro w hp1 nw1 ⟨rfl,rfl,rfl⟩;rw[uAq (Qsq n)];refine⟨by first|rfl|kernel_rfl,?_⟩;skip
 refine gC 2 O (hv) (gC 2 O (pltw k hk) (gC 2 O (hbtw) (gV 15 O (show _= .int .i64 (n:Int) by first|rfl|(simp;done)) ?_)));refine gLo (α:=Nat) 4 (λi=>i<=n) (λi=>[(28,.int .i64 (i:Int))]) [1,2,27] (λi=>n-i) (0) rfl (Nat.zero_le _) (λi hI=>?_);refine gS 6 O (λh1=>?_) (λh1=>?_)
 ·have hi:i<n:=by omega
  exact gP 17 O (qQq (i:=i) O O O O O O O hi) (gM 0 O (zXq O O O (lk_get hn hi)) (gC 0 O (ltw) (gP 0 O (qQq (i:=i) O O O O O O O hi) (gM 0 O (u8q O O O O O (lk_put hn hi)) (gA 4 O (i+1) (gAg 2 O (i+1) (hi) Xd))))))
 ·refine gO 2 O (zbq 6 O ?_);skip
  refine gSf 0 O (jbq O O O O O (by simp[purL,purW]) (clcl_s cs hcl) ?_);rintro w hp1 nw1 (⟨rfl,rfl,rfl,rfl⟩|⟨rfl,rfl,rfl⟩)
  ·refine⟨by first|rfl|kernel_rfl,?_⟩;skip
   skip
   refine gC 2 O (cl0t) (gL 11 O ?_);refine gLo (α:=Nat) 4 (λj=>j=0) (λj=>[(53,.int .i64 (j:Int))]) [1,2,52] (λj=>0) (0) rfl (rfl) (λj hI=>?_);subst hI;refine gO 9 O (gC 17 O (cl0x) (gC 4 O (cl0x) (gC 4 O (cl0p) (gC 15 O (clw_s ws false Xd) (gC 2 O (cl0w) (gL 11 O ?_))))));refine gLo (α:=Nat) 4 (λq=>q=0) (λq=>[(121,.int .i64 (q:Int))]) [1,2,120] (λq=>0) (0) rfl (rfl) (λq hI=>?_);subst hI;refine gO 9 O (zbq 9 O ?_);refine jZq Qs (show _=some (wdX (ruG r) (.sl 2 0 0 n 2 none) (vwG v) (shsW k) .nils (.fz (ws.map wrG) 35 false)) from by kernel_rfl) (.agg (.cons (.pur (jIq _)) (.cons (.sl (full:=false) (c:=lokA n) rfl (jpq n) (zkq Xl elk.symm rfl) Xi) (.cons (.pur (xXq _)) (.cons (.pur (kEq _)) (.cons (.pur rfl) (.cons .nilfz (.cons (.pur uiq) (.cons (.pur (show purW (.fz (ws.map wrG) 35 false)=true from jDq ws)) (.cons (.pur rfl) (.cons (.pur rfl) .nil)))))))))))
  ·rw[uAq (clA_pur cs)];refine⟨by first|rfl|kernel_rfl,?_⟩;refine gC 2 O (cl0t) (gV 11 O (show _= .int .i64 (cs.length:Int) by first|rfl|(simp;done)) ?_);refine gLo (α:=Nat) 4 (λj=>j<=cs.length) (λj=>[(53,.int .i64 (j:Int))]) [1,2,52] (λj=>cs.length-j) (0) rfl (Nat.zero_le _) (λj hI=>?_);refine gS 6 O (λh2=>?_) (λh2=>?_)
   ·have hj:j<cs.length:=by omega
    obtain⟨x,hx⟩:∃x,cs[j]? =some x:=⟨_,List.getElem?_eq_getElem hj⟩
    obtain⟨c1,c2⟩:=hc x (List.mem_of_getElem? hx);exact gP 15 O (qQq (i:=j) O O O O O O O hj) (gM 10 O (zXq O O O (cl_get hx Xd Xl Xl (cl_g0 x))) (gC 0 O (frames_s x false Xd c2) (gM 3 O (zXq O O O (cl_get hx Xd Xl Xl (cl_g1 x))) (gC 0 O (vwtw0) (gM 3 O (zXq O O O (cl_get hx Xd Xl Xl (cl_g2 x))) (gC 0 O (rptw) (gM 2 O (u8q O O O O O (cl_put hx Xd (by show 1<383;omega) (by show 0<1;omega) (cl_p0 x))) (gM 2 O (u8q O O O O O (cl_put hx Xd Xl Xl (cl_p1 x))) (gM 2 O (u8q O O O O O (cl_put hx Xd Xl Xl (cl_p2 x))) (gA 4 O (j+1) (gAg 2 O (j+1) (hj) Xd)))))))))))
   ·refine gO 2 O (gC 17 O (cl0x) (gC 4 O (cl0x) (gC 4 O (cl0p) (gC 15 O (clw_s ws false Xd) (gC 2 O (cl0w) (gL 11 O ?_))))));refine gLo (α:=Nat) 4 (λq=>q=0) (λq=>[(121,.int .i64 (q:Int))]) [1,2,120] (λq=>0) (0) rfl (rfl) (λq hI=>?_);subst hI;refine gO 9 O (zbq 9 O ?_);refine jZq Qs (show _=some (wdX (ruG r) (.sl 2 0 0 n 2 none) (vwG v) (shsW k) (.sl 3 0 0 cs.length 383 none) (.fz (ws.map wrG) 35 false)) from by kernel_rfl) (.agg (.cons (.pur (jIq _)) (.cons (.sl (full:=false) (c:=lokA n) rfl (jpq n) (zkq Xl elk.symm rfl) Xi) (.cons (.pur (xXq _)) (.cons (.pur (kEq _)) (.cons (.pur rfl) (.cons (.sl (full:=false) (c:=clA cs) rfl (qSq cs) (zkq Xl ecl.symm rfl) Xi) (.cons (.pur uiq) (.cons (.pur (show purW (.fz (ws.map wrG) 35 false)=true from jDq ws)) (.cons (.pur rfl) (.cons (.pur rfl) .nil)))))))))))
def Fine27(cs:List Fs)(ws:List Wrk):Prop:=cs.length<=10/\ws.length<=70/\∀(i:Nat) x,cs[i]? =some x->∀(j:Nat) y,j<40->x[j]? =some y->y.length<=400
theorem great27_s(cs:List Fs)(ws:List Wrk)(hc:cs.length<=10000000000000)(hx:∀x∈cs,x.length<=10000000000000):PE cfg glK 28 [.fz (cs.map flW) 1 false,.fz (ws.map wrG) 35 false] (λw=>∃b:Bool,w= .bool b/\(b=false->Fine27 cs ws)):=by
 have ec:(cs.map flW).length=cs.length:=List.length_map _;have ew:(ws.map wrG).length=ws.length:=List.length_map _;have pc:=fls_pur cs;have pw:=jDq ws;refine gIe 17 O (λR k0=>?_);refine gLo (α:=Nat×Nat) 0 (λp=>p.1<=cs.length/\p.1<=10/\p.2<=40*p.1/\∀(a:Nat) x,a<p.1->cs[a]? =some x->∀(j:Nat) y,j<40->x[j]? =some y->y.length<=400) (λp=>[(5,.int .i64 (p.2:Int)),(6,.int .i64 (p.1:Int))]) [0,1,4] (λp=>cs.length-p.1) ((0,0)) rfl (⟨Nat.zero_le _,Nat.zero_le _,Nat.zero_le _,λa x h=>by simp at h⟩) (λp hI=>?_);obtain⟨i,n⟩:=p;obtain⟨i1,i2,i3,i4⟩:=hI;simp only at i1 i2 i3 i4;refine gZ 5 O ec ?_;refine gD 0 O (λh1=>?_) (λh1=>?_)
 ·refine gU 2 O ?_;refine gS 3 O (λh2=>?_) (λh2=>?_)
  ·have hi:i<cs.length:=by omega
   obtain⟨x,hxi⟩:∃x,cs[i]? =some x:=⟨_,List.getElem?_eq_getElem hi⟩
   have hxm:=hx x (List.mem_of_getElem? hxi);have ex:(x.map bW).length=x.length:=List.length_map _;have px:purL (x.map bW)=true:=kYq x;refine gLo (α:=Nat×Nat) 10 (λq=>q.1<=x.length/\q.1<=40/\q.2<=40*i+q.1/\∀(j:Nat) y,j<q.1->x[j]? =some y->y.length<=400) (λq=>[(5,.int .i64 (q.2:Int)),(7,.int .i64 (q.1:Int))]) [0,1,4,6,8,9,10,11,12,13,14,15] (λq=>x.length-q.1) ((0,n)) rfl (⟨Nat.zero_le _,Nat.zero_le _,by simpa using i3,λj y h=>by simp at h⟩) (λq hI=>?_);obtain⟨k,n2⟩:=q;obtain⟨k1,k2,k3,k4⟩:=hI;simp only at k1 k2 k3 k4;refine gP 6 O (zqq (i:=i) O O O O O O O (ziq flW hxi)) (gZ 1 O ex ?_);refine gD 0 O (λh3=>?_) (λh3=>?_)
   ·refine gU 2 O ?_;refine gS 3 O (λh4=>?_) (λh4=>?_)
    ·have hk:k<x.length:=by omega
     obtain⟨y,hy⟩:∃y,x[k]? =some y:=⟨_,List.getElem?_eq_getElem hk⟩
     refine gP 9 O (zqq (i:=i) O O O O O O O (ziq flW hxi)) (gP 2 O (zqq (i:=k) O O O O O O O (ziq bW hy)) (gZ 1 O (zeq y) ?_));refine gS 3 O (λh5=>?_) (λh5=>?_)
     ·exact gO 9 O (gO 3 O (zbq 2 O (z9q (w':=.bool true) Qs rfl (.pur rfl) rfl ⟨true,rfl,λq=>by cases q⟩)))
     ·exact gA 4 O (n2+1) (gA 6 O (k+1) (gAg 2 O ((k+1,n2+1)) (⟨by omega,by omega,by omega,λj z hj hz=>by rcases Nat.lt_succ_iff_lt_or_eq.1 hj with q|rfl;exact k4 j z q hz;have:=Option.some.inj (hy.symm.trans hz);subst this;omega⟩) Xd))
    ·skip
     exact gO 2 O (gA 5 O (i+1) (gAg 2 O ((i+1,n2)) (⟨by omega,by omega,by omega,λa z ha hz j y hj hy=>by rcases Nat.lt_succ_iff_lt_or_eq.1 ha with q|rfl;exact i4 a z q hz j y hj hy;have:=Option.some.inj (hxi.symm.trans hz);subst this;exact k4 j y Xd hy⟩) Xd))
   ·skip
    exact gO 9 O (gA 5 O (i+1) (gAg 2 O ((i+1,n2)) (⟨by omega,by omega,by omega,λa z ha hz j y hj hy=>by rcases Nat.lt_succ_iff_lt_or_eq.1 ha with q|rfl;exact i4 a z q hz j y hj hy;have:=Option.some.inj (hxi.symm.trans hz);subst this;exact k4 j y (by have:=qXq hy;omega) hy⟩) Xd))
  ·refine gO 2 O (gZ 5 O ec ?_);refine gD 0 O (λh3=>?_) (λh3=>?_)
   ·exact zbq 13 O (z9q (w':=.bool true) Qs rfl (.pur rfl) rfl ⟨true,rfl,λq=>by cases q⟩)
   ·refine gD 2 O (λh4=>?_) (λh4=>?_)
    ·exact zbq 10 O (z9q (w':=.bool true) Qs rfl (.pur rfl) rfl ⟨true,rfl,λq=>by cases q⟩)
    ·refine gZ 3 O ew ?_;refine gD 0 O (λh5=>?_) (λh5=>?_)
     ·exact zbq 5 O (z9q (w':=.bool true) Qs rfl (.pur rfl) rfl ⟨true,rfl,λq=>by cases q⟩)
     ·exact zbq 5 O (z9q (w':=.bool false) Qs rfl (.pur rfl) rfl ⟨false,rfl,λ_=>⟨by omega,by omega,λa z hz j y hj hy=>i4 a z (by have:=qXq hz;omega) hz j y hj hy⟩⟩)
 ·skip
  refine gO 9 O (gZ 5 O ec ?_);refine gD 0 O (λh2=>?_) (λh2=>?_)
  ·exact zbq 13 O (z9q (w':=.bool true) Qs rfl (.pur rfl) rfl ⟨true,rfl,λq=>by cases q⟩)
  ·refine gD 2 O (λh3=>?_) (λh3=>?_)
   ·exact zbq 10 O (z9q (w':=.bool true) Qs rfl (.pur rfl) rfl ⟨true,rfl,λq=>by cases q⟩)
   ·refine gZ 3 O ew ?_;refine gD 0 O (λh4=>?_) (λh4=>?_)
    ·exact zbq 5 O (z9q (w':=.bool true) Qs rfl (.pur rfl) rfl ⟨true,rfl,λq=>by cases q⟩)
    ·exact zbq 5 O (z9q (w':=.bool false) Qs rfl (.pur rfl) rfl ⟨false,rfl,λ_=>⟨by omega,by omega,λa z hz j y hj hy=>i4 a z (by have:=qXq hz;omega) hz j y hj hy⟩⟩)
set_option maxRecDepth 100000 in
theorem rlokz_s :PS cfg glK 154 [lokZ,lokZ] (.bool true):=by
 refine gI 18 O (λR k0=>?_);refine gL 0 O ?_;refine gL 2 O ?_;refine gLo (α:=Nat) 14 (λi=>i=0) (λi=>[(5,.int .i64 (i:Int))]) [2,3,4] (λi=>0) (0) rfl (rfl) (λi hI=>?_);subst hI;refine gL 6 O ?_;refine gO 6 O ?_;exact gQa 8 O
set_option maxRecDepth 100000 in
theorem rsfr_s(l:Fs)(hl:l.length<=1000000):PS cfg glK 228 [flW l,flW l] (.bool true):=by
 have e:(l.map bW).length=l.length:=List.length_map _;have ep:purL (l.map bW)=true:=kYq l;refine gI 9 O (λR k0=>gZ 0 O e (gZ 1 O e (gF 0 O (congrArg not (eqI_iff.2 (rfl))) ?_)));refine gLo (α:=Nat) 12 (λi=>i<=l.length) (λi=>[(5,.int .i64 (i:Int))]) [0,1,4] (λi=>l.length-i) (0) rfl (Nat.zero_le _) (λi hI=>?_);refine gZ 5 O e ?_;refine gS 3 O (λh1=>?_) (λh1=>?_)
 ·have hi:i<l.length:=by omega
  obtain⟨x,hx⟩:∃x,l[i]? =some x:=⟨_,List.getElem?_eq_getElem hi⟩
  exact gP 8 O (zqq (i:=i) O O O O O O O (ziq bW hx)) (gP 3 O (zqq (i:=i) O O O O O O O (ziq bW hx)) (gC 1 O (zWq (w':=.bool true) (same_s x x false false) Ya) (gA 9 O (i+1) (gAg 2 O (i+1) (hi) Xd))))
 ·exact gO 2 O (gQa 8 O)
theorem rrpz_s:PS cfg glK 292 [prz,prz] (.bool true):=yOq (.cons prZV_view (.cons prZV_view .nil)) prZV.same
set_option maxRecDepth 100000 in
theorem rrpzs_s:PS cfg glK 229 [rpZ,rpZ] (.bool true):=by
 exact gI 54 O (λR k0=>gC 0 O (rrpz_s) (gQa 19 O))
theorem rnov_s:PS cfg glK 19 [noVw,noVw] (.bool true):=yOq (.cons xhq (.cons xhq .nil)) (zWq (w':=.bool true) (rvsame_s vwZ vwZ v8q v8q) Ya)
theorem vwZ_ok:OkC vwZ.ch:=by constructor<;>simp[vwZ]
theorem vwZ_may:¬MayV vwZ:=λh=>absurd h.1.one (by simp[vwZ])
theorem rnom_s:PS cfg glK 17 [noVw] (.bool false):=yOq (.cons xhq .nil) (zWq (w':=.bool false) (rvmay_s vwZ vwZ_ok) (by rw[decide_eq_false vwZ_may]))
set_option maxRecDepth 100000 in
theorem rvz_t:PS cfg glK 156 [noVw,noVw,.bool true] (.bool true):=by
 refine x3q (fn:=Tryz.f156) O O O (Ob rfl) (λR k0=>?_);skip
 exact zKq 28 O (gC 0 O (rnov_s) (gQa 5 O))
set_option maxRecDepth 100000 in
theorem rvz_f:PS cfg glK 156 [noVw,noVw,.bool false] (.bool true):=by
 refine x3q (fn:=Tryz.f156) O O O (Ob rfl) (λR k0=>?_);skip
 exact zKq 13 O (gC 0 O rnom_s (gC 14 O (rnov_s) (gQa 5 O)))
set_option maxRecDepth 100000 in
theorem rvt_s(v:Vw)(hs:SmallC v.ch):PS cfg glK 156 [vwG v,vwG v,.bool true] (.bool true):=by
 refine x3q (fn:=Tryz.f156) O O O (Ob rfl) (λR k0=>?_);skip
 exact zKq 28 O (gC 0 O ((zWq (w':=.bool true) (rvsame_s v v hs hs) Ya)) (gQa 5 O))
set_option maxRecDepth 100000 in
theorem rvf_s(v u:Vw)(hv:OkC v.ch)(hu:OkC u.ch)(mv:MayV v)(mu:MayV u)(p:PS cfg glK 18 [vwG v,vwG u] (.bool true)):PS cfg glK 156 [vwG v,vwG u,.bool false] (.bool true):=by
 refine x3q (fn:=Tryz.f156) O O O (Ob rfl) (λR k0=>?_);skip
 exact zKq 13 O (gC 0 O (zWq (w':=.bool true) (rvmay_s v hv) (by rw[decide_eq_true (mv)])) (gC 4 O (zWq (w':=.bool true) (rvmay_s u hu) (by rw[decide_eq_true (mu)])) (gC 11 O (p) (gQa 4 O))))
set_option maxRecDepth 100000 in
theorem rclis_t(l:Fs)(hl:l.length<=1000000):PS cfg glK 155 [cliW l,cliW l,.bool true] (.bool true):=by
 exact gI 13 O (λR k0=>gC 0 O (rsfr_s l hl) (gC 26 O (rrpzs_s) (gC 7 O (rvz_t) (gQa 5 O))))
set_option maxRecDepth 100000 in
theorem rclis_f(l:Fs)(hl:l.length<=1000000):PS cfg glK 155 [cliW l,cliW l,.bool false] (.bool true):=by
 exact gI 13 O (λR k0=>gC 0 O (rsfr_s l hl) (gC 26 O (rrpzs_s) (gC 7 O (rvz_f) (gQa 5 O))))
set_option maxRecDepth 100000 in
theorem rtx0_s :PS cfg glK 232 [.nils,.nils] (.bool true):=by
 refine gI 9 O (λR k0=>?_);refine gL 0 O ?_;refine gL 1 O ?_;refine gLo (α:=Nat) 13 (λi=>i=0) (λi=>[(5,.int .i64 (i:Int))]) [0,1,4] (λi=>0) (0) rfl (rfl) (λi hI=>?_);subst hI;refine gL 5 O ?_;refine gO 6 O ?_;exact gQa 8 O
set_option maxRecDepth 100000 in
theorem rexs_s:PS cfg glK 159 [exZ,exZ] (.bool true):=by
 exact gI 16 O (λR k0=>gC 0 O (yOq (.cons (.agg (.cons .nilfz (.cons .nilfz .nil))) (.cons (.agg (.cons .nilfz (.cons .nilfz .nil))) .nil)) (zWq (w':=.bool true) (rsbody_s [] [] [] [] false false false false Xh Xh) (by rw[decide_eq_true ⟨rfl,rfl⟩]))) (gC 25 O (rtx0_s) (gC 6 O (rtx0_s) (gQa 19 O))))
set_option maxRecDepth 100000 in
theorem rswk_s(l:List Wrk)(hl:l.length<=1000000):PS cfg glK 160 [.fz (l.map wrG) 35 false,.fz (l.map wrG) 35 false] (.bool true):=by
 have e:(l.map wrG).length=l.length:=List.length_map _;have ep:=jDq l;refine gI 9 O (λR k0=>gZ 0 O e (gZ 1 O e (gF 0 O (congrArg not (eqI_iff.2 (rfl))) ?_)));refine gLo (α:=Nat) 12 (λi=>i<=l.length) (λi=>[(5,.int .i64 (i:Int))]) [0,1,4] (λi=>l.length-i) (0) rfl (Nat.zero_le _) (λi hI=>?_);refine gZ 5 O e ?_;refine gS 3 O (λh1=>?_) (λh1=>?_)
 ·have hi:i<l.length:=by omega
  obtain⟨x,hx⟩:∃x,l[i]? =some x:=⟨_,List.getElem?_eq_getElem hi⟩
  exact gP 8 O (zqq (i:=i) O O O O O O O (ziq wrG hx)) (gP 3 O (zqq (i:=i) O O O O O O O (ziq wrG hx)) (zbq 1 O (vDq (w':=.bool false) rfl (q4q O O O O (eq_wr x)) O (ykq 8 O (gA 0 O (i+1) (gAg 2 O (i+1) (hi) Xd))))))
 ·exact gO 2 O (gQa 8 O)
set_option maxRecDepth 100000 in
theorem rtr0_s :PS cfg glK 161 [.nils,.nils] (.bool true):=by
 refine gI 9 O (λR k0=>?_);refine gL 0 O ?_;refine gL 1 O ?_;refine gLo (α:=Nat) 13 (λi=>i=0) (λi=>[(5,.int .i64 (i:Int))]) [0,1,4] (λi=>0) (0) rfl (rfl) (λi hI=>?_);subst hI;refine gL 5 O ?_;refine gO 6 O ?_;exact gQa 8 O
set_option maxRecDepth 100000 in
theorem rshs_s :PS cfg glK 230 [shW,shW] (.bool true):=by
 refine gI 12 O (λR k0=>?_);refine gL 0 O ?_;refine gL 2 O ?_;refine gLo (α:=Nat) 13 (λi=>i=0) (λi=>[(5,.int .i64 (i:Int))]) [2,3,4] (λi=>0) (0) rfl (rfl) (λi hI=>?_);subst hI;refine gL 6 O ?_;refine gO 6 O ?_;exact gQa 8 O
set_option maxRecDepth 100000 in
theorem rhub_s :PS cfg glK 158 [hub0,hub0] (.bool true):=by
 refine gI 18 O (λR k0=>?_);refine gL 0 O ?_;refine gL 2 O ?_;refine gLo (α:=Nat) 14 (λi=>i=0) (λi=>[(5,.int .i64 (i:Int))]) [2,3,4] (λi=>0) (0) rfl (rfl) (λi hI=>?_);subst hI;refine gL 6 O ?_;refine gO 6 O ?_;exact gQa 8 O
set_option maxRecDepth 100000 in
theorem rpool_s(k:Nat)(hk:k<=1000000):PS cfg glK 157 [shsW k,shsW k] (.bool true):=by
 have e:(List.replicate k shW).length=k:=by simp
 refine gI 9 O (λR k0=>gZ 0 O e (gZ 1 O e (gF 0 O (congrArg not (eqI_iff.2 (rfl))) ?_)));refine gLo (α:=Nat) 12 (λi=>i<=k) (λi=>[(5,.int .i64 (i:Int))]) [0,1,4] (λi=>k-i) (0) rfl (Nat.zero_le _) (λi hI=>?_);refine gZ 5 O e ?_;refine gS 3 O (λh1=>?_) (λh1=>?_)
 ·have hi:i<k:=by omega
  have hx:(List.replicate k shW)[i]? =some shW:=by rw[List.getElem?_replicate,if_pos hi]
  exact gP 8 O (zqq (i:=i) O O O O O O O hx) (gP 3 O (zqq (i:=i) O O O O O O O hx) (gC 1 O rshs_s (gA 9 O (i+1) (gAg 2 O (i+1) (hi) Xd))))
 ·exact gO 2 O (gQa 8 O)
set_option maxRecDepth 100000 in
theorem rws_t(r:Ru)(n:Nat)(v u:Vw)(k:Nat)(cs:List Fs)(ws:List Wrk)(hc:∀l∈cs,l.length<=1000000)(hn:n<=1000000)(hk:k<=1000000)(hcl:cs.length<=1000000)(hw:ws.length<=1000000)(hv:PS cfg glK 156 [vwG v,vwG u,.bool true] (.bool true)):PS cfg glK 82 [wdG r n v k cs ws,wdG r n u k cs ws,.bool true] (.bool true):=by
 have e:(List.replicate n lokZ).length=n:=by simp
 have ec:(cs.map cliW).length=cs.length:=List.length_map _;have ep:=qSq cs;refine gI 12 O (λR k0=>gZ 0 O e (gZ 2 O e (gF 0 O (congrArg not (eqI_iff.2 (rfl))) (gZ 3 O ec (gZ 2 O ec (gF 0 O (congrArg not (eqI_iff.2 (rfl))) ?_))))));refine gLo (α:=Nat) 13 (λi=>i<=n) (λi=>[(7,.int .i64 (i:Int))]) [2,3,4,6] (λi=>n-i) (0) rfl (Nat.zero_le _) (λi hI=>?_);refine gZ 6 O e ?_;refine gS 3 O (λh1=>?_) (λh1=>?_)
 ·have hi:i<n:=by omega
  have hx:(List.replicate n lokZ)[i]? =some lokZ:=by rw[List.getElem?_replicate,if_pos hi]
  exact gP 9 O (zqq (i:=i) O O O O O O O hx) (gP 4 O (zqq (i:=i) O O O O O O O hx) (gC 1 O rlokz_s (gA 9 O (i+1) (gAg 2 O (i+1) (hi) Xd))))
 ·refine gO 2 O ?_;refine gLo (α:=Nat) 9 (λj=>j<=cs.length) (λj=>[(8,.int .i64 (j:Int))]) [2,3,4,6] (λj=>cs.length-j) (0) rfl (Nat.zero_le _) (λj hI=>?_);refine gZ 6 O ec ?_;refine gS 3 O (λh2=>?_) (λh2=>?_)
  ·have hj:j<cs.length:=by omega
   obtain⟨x,hx⟩:∃x,cs[j]? =some x:=⟨_,List.getElem?_eq_getElem hj⟩
   exact gP 9 O (zqq (i:=j) O O O O O O O (ziq cliW hx)) (gP 4 O (zqq (i:=j) O O O O O O O (ziq cliW hx)) (gC 2 O (rclis_t x (hc x (List.mem_of_getElem? hx))) (gA 9 O (j+1) (gAg 2 O (j+1) (hj) Xd))))
  ·exact gO 2 O (zbq 8 O (xfq (w':=.bool true) rfl (yaq O O O O (eq_ru r)) O (zpq 6 O (gC 0 O (hv) (gC 6 O (rpool_s k hk) (gC 6 O (rhub_s) (gC 6 O (rexs_s) (gC 6 O (rswk_s ws hw) (gC 6 O (yOq (.cons .nilfz (.cons .nilfz .nil)) (rswk_s [] Xh)) (gC 6 O (rtr0_s) (gQa 5 O)))))))))))
set_option maxRecDepth 100000 in
theorem rwsame_s(r:Ru)(n:Nat)(v u:Vw)(k:Nat)(cs:List Fs)(ws:List Wrk)(hc:∀l∈cs,l.length<=1000000)(hn:n<=1000000)(hk:k<=1000000)(hcl:cs.length<=1000000)(hw:ws.length<=1000000)(hv:PS cfg glK 156 [vwG v,vwG u,.bool true] (.bool true)):PS cfg glK 33 [wdG r n v k cs ws,wdG r n u k cs ws] (.bool true):=by
 have h1:=jEq r n v k cs ws;have h2:=jEq r n u k cs ws;have hz:=rws_t r n v u k cs ws hc hn hk hcl hw hv;have hpz:purL [wdG r n v k cs ws,wdG r n u k cs ws,.bool true]=true:=by show(purW _&&(purW _&&_))=true;rw[h1,h2];rfl
 exact gI 11 O (λR k0=>gC 0 O (hz) (gQa 4 O))
set_option maxRecDepth 100000 in
theorem rws_f(r:Ru)(n:Nat)(v u:Vw)(k:Nat)(cs:List Fs)(ws:List Wrk)(hc:∀l∈cs,l.length<=1000000)(hn:n<=1000000)(hk:k<=1000000)(hcl:cs.length<=1000000)(hw:ws.length<=1000000)(hv:PS cfg glK 156 [vwG v,vwG u,.bool false] (.bool true)):PS cfg glK 82 [wdG r n v k cs ws,wdG r n u k cs ws,.bool false] (.bool true):=by
 have e:(List.replicate n lokZ).length=n:=by simp
 have ec:(cs.map cliW).length=cs.length:=List.length_map _;have ep:=qSq cs;refine gI 12 O (λR k0=>gZ 0 O e (gZ 2 O e (gF 0 O (congrArg not (eqI_iff.2 (rfl))) (gZ 3 O ec (gZ 2 O ec (gF 0 O (congrArg not (eqI_iff.2 (rfl))) ?_))))));refine gLo (α:=Nat) 13 (λi=>i<=n) (λi=>[(7,.int .i64 (i:Int))]) [2,3,4,6] (λi=>n-i) (0) rfl (Nat.zero_le _) (λi hI=>?_);refine gZ 6 O e ?_;refine gS 3 O (λh1=>?_) (λh1=>?_)
 ·have hi:i<n:=by omega
  have hx:(List.replicate n lokZ)[i]? =some lokZ:=by rw[List.getElem?_replicate,if_pos hi]
  exact gP 9 O (zqq (i:=i) O O O O O O O hx) (gP 4 O (zqq (i:=i) O O O O O O O hx) (gC 1 O rlokz_s (gA 9 O (i+1) (gAg 2 O (i+1) (hi) Xd))))
 ·refine gO 2 O ?_;refine gLo (α:=Nat) 9 (λj=>j<=cs.length) (λj=>[(8,.int .i64 (j:Int))]) [2,3,4,6] (λj=>cs.length-j) (0) rfl (Nat.zero_le _) (λj hI=>?_);refine gZ 6 O ec ?_;refine gS 3 O (λh2=>?_) (λh2=>?_)
  ·have hj:j<cs.length:=by omega
   obtain⟨x,hx⟩:∃x,cs[j]? =some x:=⟨_,List.getElem?_eq_getElem hj⟩
   exact gP 9 O (zqq (i:=j) O O O O O O O (ziq cliW hx)) (gP 4 O (zqq (i:=j) O O O O O O O (ziq cliW hx)) (gC 2 O (rclis_f x (hc x (List.mem_of_getElem? hx))) (gA 9 O (j+1) (gAg 2 O (j+1) (hj) Xd))))
  ·exact gO 2 O (zbq 8 O (xfq (w':=.bool true) rfl (yaq O O O O (eq_ru r)) O (zpq 6 O (gC 0 O (hv) (gC 6 O (rpool_s k hk) (gC 6 O (rhub_s) (gC 6 O (rexs_s) (gC 6 O (rswk_s ws hw) (gC 6 O (yOq (.cons .nilfz (.cons .nilfz .nil)) (rswk_s [] Xh)) (gC 6 O (rtr0_s) (gQa 5 O)))))))))))
set_option maxRecDepth 100000 in
theorem rwalike_s(r:Ru)(n:Nat)(v u:Vw)(k:Nat)(cs:List Fs)(ws:List Wrk)(hc:∀l∈cs,l.length<=1000000)(hn:n<=1000000)(hk:k<=1000000)(hcl:cs.length<=1000000)(hw:ws.length<=1000000)(hv:PS cfg glK 156 [vwG v,vwG u,.bool false] (.bool true)):PS cfg glK 31 [wdG r n v k cs ws,wdG r n u k cs ws] (.bool true):=by
 have h1:=jEq r n v k cs ws;have h2:=jEq r n u k cs ws;have hz:=rws_f r n v u k cs ws hc hn hk hcl hw hv;have hpz:purL [wdG r n v k cs ws,wdG r n u k cs ws,.bool false]=true:=by show(purW _&&(purW _&&_))=true;rw[h1,h2];rfl
 exact gI 11 O (λR k0=>gC 0 O (hz) (gQa 4 O))
end
theorem fit_rul{w:W}(h:Fit (.st 38 [.int .i64,.int .i64,.int .i64,.int .i64,.int .i64,.int .i64,.arr 32 1 (.int .u8)]) w):∃r:Ru,w=ruG r:=by
 obtain⟨l,rfl,w1,l1,rfl,h1,w2,l2,rfl,h2,w3,l3,rfl,h3,w4,l4,rfl,h4,w5,l5,rfl,h5,w6,l6,rfl,h6,w7,l7,rfl,h7,rfl⟩:=h;obtain⟨a,rfl,_⟩:=ueq h1;obtain⟨b,rfl,_⟩:=ueq h2;obtain⟨c,rfl,_⟩:=ueq h3;obtain⟨d,rfl,_⟩:=ueq h4;obtain⟨e,rfl,_⟩:=ueq h5;obtain⟨f,rfl,_⟩:=ueq h6;obtain⟨g,rfl⟩:=fit_dig h7;exact⟨⟨a,b,c,d,e,f,g⟩,rfl⟩
section
attribute [local irreducible] CoW OpW FlW Step Spec
theorem okn_val{ns:List Node}(h:okN ns):∀x∈ns,x.val.length<=64:=λx hx=>by
 obtain⟨i,hi⟩:=List.getElem?_of_mem hx;obtain⟨lf,k,v,l,r⟩:=x;cases lf with
 |true=>exact(Zsq h hi).2
 |false=>
  have q:=h i _ hi;unfold oneB at q;rw[if_neg (λq=>by cases q)] at q;have e:v=[]:=q.2.2.2.1;subst e;exact Nat.zero_le _
theorem ZCq{A:Ch}{l:List Pr}(h:vLq A l)(m:MayC A):(SmallC A/\∀x∈A.tree.nodes,x.val.length<=1000000000)/\MayV ⟨0,false,0,A⟩:=by
 obtain⟨t0,r,_,_,hl,_⟩:=h;obtain⟨n,t1,hA⟩:=(m.link 0 ⟨firH t0,r,[],[],[]⟩ (by rw[hl];rfl)).tree;have h1:A.tree.nodes.length<=262144:=hA.len;have h2:=okn_val (ns:=A.tree.nodes) hA.okn;have h3:A.links.length=1:=by rw[hl];rfl
 refine⟨⟨⟨by omega,λx hx=>by have:=h2 x hx;omega,by omega,λx hx=>?_⟩,λx hx=>by have:=h2 x hx;omega⟩,m,by show(0:Int)<=0;decide,by show(0:Int)<(A.links.length:Int);omega,by show(0:Int)<=0;decide,by show(0:Int)<=1073741823;decide⟩;rw[hl,List.mem_singleton] at hx;subst hx;exact⟨Nat.zero_le _,Nat.zero_le _,Nat.zero_le _⟩
theorem wld_no{F:FuncId}{a:List W}{P:Ch->Prop}{r:Ru}{l:List Pr}{cs:List Fs}{ws:List Wrk}(h:PE cfg glK F a (WldQ P r l cs ws))(he:wldE r l cs ws≠0):PE cfg glK F a (λw=>w= .tup [wdZ,.int .i64 (wldE r l cs ws)]):=
 pe_res h (by
  rintro w hp (⟨e,rfl,_,rfl⟩|⟨q,_⟩)
  ·exact⟨_,.pur hp,hp,rfl⟩
  ·exact absurd q he)
theorem wld_ok{F:FuncId}{a:List W}{P:Ch->Prop}{r:Ru}{l:List Pr}{cs:List Fs}{ws:List Wrk}(h:PE cfg glK F a (WldQ P r l cs ws))(he:wldE r l cs ws=0):PE cfg glK F a (λw=>∃A,(FewC cs ws/\okU r)/\vLq A l/\P A/\w= .tup [wdG r (r.shards.toNat+1) ⟨0,false,0,A⟩ r.shards.toNat cs ws,.int .i64 0]):=
 pe_res h (by
  rintro w hp (⟨e,rfl,q,_⟩|⟨_,hf,hr,A,fA,pA,rfl⟩)
  ·exact absurd he q
  ·exact⟨_,.pur hp,hp,A,⟨hf,hr⟩,fA,pA,rfl⟩)
set_option maxHeartbeats 1000000 in
set_option maxRecDepth 100000 in
theorem cbegins_s(r:Ru)(l:List Pr)(hb:l.length<=1000000000000000)(cs:List Fs)(ws:List Wrk)(hc:cs.length<=10000000000000)(hx:∀x∈cs,x.length<=10000000000000):PS cfg glK 5 [ruG r,psW l,.fz (cs.map flW) 1 false,.fz (ws.map wrG) 35 false] (.bool true):=by
 by_cases h5:YVq l 20
 ·skip
  exact gI 10 O (λR k0=>gC 0 O (zWq (w':=.bool true) (great5_s l false 20 hb) (by rw[decide_eq_true (h5)])) (gQa 15 O))
 have hl:l.length<=20:=Nat.le_of_not_lt λq=>h5 (.inl q)
 refine gI 10 O (λR k0=>gC 0 O (zWq (w':=.bool false) (great5_s l false 20 hb) (by rw[decide_eq_false (h5)])) (gE 3 O (great27_s cs ws hc hx) ?_));rintro w hw ⟨b,rfl,hF⟩;refine gB 1 O (λh1=>?_) (λh1=>?_)
 ·exact gQa 10 O
 ·have hF:=hF (by first|assumption|simpa using h1);obtain⟨f1,f2,f3⟩:=hF
  have hy:FewC cs ws->∀x∈cs,∀y∈x,y.length<=400:=λq x hm y hn=>by
   obtain⟨i,hi⟩:=List.getElem?_of_mem hm;obtain⟨j,hj⟩:=List.getElem?_of_mem hn;exact f3 i x hi j y (by have:=q.2 x hm;have:=qXq hj;omega) hj
  have hv:FewC cs ws->∀x∈cs,∀y∈x,y.length<=70368744177664:=λq x hm y hn=>by have:=hy q x hm y hn;omega
  skip
  by_cases hE:wldE r l cs ws=0
  ·refine gE 11 O (wld_ok (begin_s r l Xd cs ws Xd Xd hv) hE) ?_;rintro w hw ⟨A,⟨hf,hr⟩,fA,⟨oA,mA⟩,rfl⟩;refine gE 14 O (wld_ok (rbegin_s r l Xd cs ws Xd hv) hE) ?_;rintro w hw ⟨D,_,fD,⟨oD,mD⟩,rfl⟩;obtain⟨⟨s1,s8⟩,_⟩:=id hr;obtain⟨⟨sA,vA⟩,wA⟩:=ZCq fA mA;obtain⟨⟨sD,vD⟩,wD⟩:=ZCq fD mD;have hc32:∀x∈cs,x.length<=1000000:=λx q=>(by have:=hf.2 x q;omega);have hcl:cs.length<=1000000:=Xd;have hw:ws.length<=1000000:=Xd;have hn:r.shards.toNat+1<=1000000:=Xd;have hk:r.shards.toNat<=1000000:=Xd;have p1:purL [wdG r (r.shards.toNat+1) ⟨0,false,0,A⟩ r.shards.toNat cs ws,wdG r (r.shards.toNat+1) ⟨0,false,0,D⟩ r.shards.toNat cs ws]=true:=(by show(purW _&&(purW _&&_))=true;rw[jEq,jEq];rfl);have p2:purL [wdG r (r.shards.toNat+1) ⟨0,false,0,A⟩ r.shards.toNat cs ws,wdG r (r.shards.toNat+1) ⟨0,false,0,A⟩ r.shards.toNat cs ws]=true:=(by show(purW _&&(purW _&&_))=true;rw[jEq];rfl);have p3:purL [wdG r (r.shards.toNat+1) ⟨0,false,0,A⟩ r.shards.toNat cs ws]=true:=(by show(purW _&&_)=true;rw[jEq];rfl);have p4:=jEq r (r.shards.toNat+1) ⟨0,false,0,A⟩ r.shards.toNat cs ws
   exact gF 13 O (congrArg not (eqI_iff.2 (rfl))) (gF 8 O (congrArg not (eqI_iff.2 (rfl))) (gT 8 O (eqI_iff.2 (rfl)) (gC 3 O (rwalike_s r _ ⟨0,false,0,A⟩ ⟨0,false,0,D⟩ _ cs ws hc32 hn hk hcl hw (rvf_s ⟨0,false,0,A⟩ ⟨0,false,0,D⟩ oA oD wA wD (rvalike_s ⟨0,false,0,A⟩ ⟨0,false,0,D⟩ ⟨rfl,rfl,rfl⟩ sA.len sA.link (first_alike fA fD)))) (gC 4 O (wsame_s r _ ⟨0,false,0,A⟩ _ cs ws (λx q=>⟨hc32 x q,λy z=>by have:=hy hf x q y z;omega⟩) hn hk hcl hw (zWq (w':=.bool true) (vsame_s ⟨0,false,0,A⟩ ⟨0,false,0,A⟩ sA vA) Ya)) (gC 3 O (wtwin_s r _ ⟨0,false,0,A⟩ _ cs ws Xd hn hk hcl (λx q=>⟨hc32 x q,hv hf x q⟩) hw (vtwin2_s ⟨0,false,0,A⟩ sA)) (gC 1 O (rwsame_s r _ ⟨0,false,0,A⟩ ⟨0,false,0,A⟩ _ cs ws hc32 hn hk hcl hw (rvt_s ⟨0,false,0,A⟩ sA)) (gQa 6 O)))))))
  ·skip
   refine gE 11 O (wld_no (begin_s r l Xd cs ws Xd Xd hv) hE) ?_;rintro w hw rfl;refine gE 14 O (wld_no (rbegin_s r l Xd cs ws Xd hv) hE) ?_;rintro w hw rfl;exact gF 13 O (congrArg not (eqI_iff.2 (rfl))) (gT 8 O (congrArg not (eqI_not.2 (hE))) (gL 3 O (gT 0 O (eqI_iff.2 (rfl)) (gQa 25 O))))
theorem fit_wrk{w:W}(h:Fit (.st 35 [.int .u8,.arr 32 1 (.int .u8),.int .u64,.int .i64]) w):∃x:Wrk,w=wrG x/\True:=by
 obtain⟨l,rfl,w1,l1,rfl,h1,w2,l2,rfl,h2,w3,l3,rfl,h3,w4,l4,rfl,h4,rfl⟩:=h;obtain⟨k,rfl,_⟩:=fit_u8 h1;obtain⟨d,rfl⟩:=fit_dig h2;obtain⟨a,rfl,_⟩:=fit_u64 h3;obtain⟨b,rfl,_⟩:=ueq h4;exact⟨⟨(k.toNat:Int),d,(a:Int),b⟩,rfl,trivial⟩
theorem fit_fs{w:W}(h:Fit (.sl 1 24 (.sl 1 1 (.int .u8))) w):∃l:Fs,w=flW l/\l.length<=10000000000000:=by
 obtain⟨l,rfl,hl,_⟩:=fit_sl (Q:=λ_=>True) h λx hx=>by obtain⟨b,rfl,_⟩:=fit_bW hx;exact⟨b,rfl,trivial⟩
 exact⟨l,rfl,by omega⟩
end
mutual
/-- all blocks in it lie below n -/
noncomputable def ltB(n:Nat):V->Bool
 |.ptr b _=>decide (b<n)
 |.sl b _ _ _ _ _=>decide (b<n)
 |.map b=>decide (b<n)
 |.yield b=>decide (b<n)
 |.fn _ a c=>ltL n a&&ltL n c
 |.iface _ v=>ltB n v
 |.agg _ l=>ltL n l
 |.arr _ _ l=>ltL n l
 |.tup l=>ltL n l
 |.undef=>true
 |.bool _=>true
 |.int _ _=>true
 |.str _=>true
 |.nilp=>true
 |.nils=>true
 |.nilm=>true
 |.nilf=>true
 |.nili=>true
noncomputable def ltL(n:Nat):List V->Bool
 |[]=>true
 |v::l=>ltB n v&&ltL n l
end
noncomputable def SeenK(h:Heap):Nat->Prop:=λb=>b<h.next/\∃v,h.val b=some v/\ltB h.next v=true
noncomputable def u32V(n:Nat):V:=.int .u32 (.ofNat n)
noncomputable def eqK:List V->List Nat->Bool
 |[],[]=>true
 |.int .u32 (.ofNat n)::l,m::ms=>match Nat.beq n m with
  |true=>eqK l ms
  |false=>false
 |_,_=>false
theorem eqK_spec:∀{l:List V} {ms:List Nat},eqK l ms=true->l=ms.map u32V
 |[],[],_=>rfl
 |[],_::_,h=>by simp[eqK] at h
 |v::l,ms,h=>by
  unfold eqK at h;split at h
  ·simp_all
  ·rename_i n l' m ms' e;cases e;split at h
   ·rename_i hb;obtain rfl:=Nat.eq_of_beq_eq_true hb;rw[eqK_spec h];rfl
   ·cases h
  ·cases h
noncomputable def globK(h:Heap):Bool:=match h.get 0 with
 |some (.ro (.arr 64 1 l))=>eqK l kW
 |_=>false
theorem RSL_wd(Γ:Ctx):∀l:List Nat,RSL Γ (l.map wd) (l.map u32V)
 |[]=>rfl
 |n::l=>qBq (a:=[u32V n]) (b:=l.map u32V) (x:=wd n) rfl (RSL_wd Γ l)
theorem globK_spec{h:Heap}(hn:Nat.ble 2 h.next=true)(hk:globK h=true):GRel cfg glK ⟨0,λi=>i,SeenK h,h⟩:=by
 intro g w _ h2 nw σ;have hn:=Ob hn;unfold glK at h2;split at h2
 ·cases h2;unfold globK at hk;split at hk
  ·rename_i l hg;obtain rfl:=eqK_spec hk;have hv:h.val 0=some (.arr 64 1 (kW.map u32V)):=by simp only[Heap.val,hg]
   refine RV.of_one ⟨0,0,_,rfl,⟨by omega,_,hv,by rfl⟩,hv,by exact Nat.le_refl _,λ_=>rfl,.inr rfl,?_⟩ O O;have e:((zlq (.arr 64 1 (kW.map u32V))).drop 0).take 64=kW.map u32V:=by kernel_rfl
   show RS _ _ (((zlq (.arr 64 1 (kW.map u32V))).drop 0).take 64);rw[e];exact⟨rfl,λx hx=>by obtain⟨n,_,rfl⟩:=List.mem_map.1 hx;rfl,RSL_wd _ kW⟩
  ·cases hk
 ·cases h2
end
end Go.Proofs.YtfliaigjcadegabGreatDoor
