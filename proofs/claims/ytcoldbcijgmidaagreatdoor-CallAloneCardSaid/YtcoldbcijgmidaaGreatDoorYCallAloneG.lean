/- CallAlone's ground, part 7. No condition. -/
import Derived.Deep.LoopGhost
import Derived.Deep.RegionLaw
import Derived.OpenShut
import Derived.Handed
import Derived.ChangeArms
import Derived.ChangeOld
import Derived.OpenVars
import Derived.Carry
import Derived.Test.YtcoldbcijgmidaaGreatDoorYCallAloneF
set_option maxRecDepth 100000
set_option linter.unusedSimpArgs false
set_option linter.unusedVariables false
namespace Go.Proofs.YtcoldbcijgmidaaGreatDoor
noncomputable section
section
open Go.RowKit Go.Lib
set_option maxHeartbeats 4000000 in
theorem bVq(b f n c i A q m L:Nat)(E I:List Value)(w:World)(hi:i<n)(hm:0<m)(hroom:n+m<=c)(hc63:n+m<=70368744177664)(M:A≠b)
  (hcl:E.length=n*99) (hvl:I.length=m*99)
  (hcs:∀j v,E[j]? =some v->w.cell? ⟨b,f+j,none⟩=some v) (F:∀j,j<(n+m)*99->(w.cell? ⟨b,f+j,none⟩).isSome=true) (Q:∀j,j<(n+m)*99->w.frozen? ⟨b,f+j,none⟩=false)
  (hvs:∀j v,I[j]? =some v->w.cell? ⟨A,q+j,none⟩=some v) (V:∀v∈E,v.oneCell'=true) (h1v:∀v∈I,v.oneCell'=true)
  (tA tB:TypeId) (kA kB:Nat) (hsa:w.shape? A=some (tA,kA)) (hsb:w.shape? b=some (tB,kB)) (T:kB≠0) (X:w.frozen? ⟨A,q,none⟩=false) (R:w.frozen? ⟨A,kA,none⟩=false):
  Calls Tryz.prog 234 #[.slice (some ⟨b,f,none⟩) n c,.int .i64 i,.slice (some ⟨A,q,none⟩) m L] w λe w'=>
   e= .returned (.slice (some ⟨b,f,none⟩) (n+m) c)/\w'=(w.drew.setCells b (f+(i+m)*99) (E.drop (i*99))).setCells b (f+i*99) I:=by
 have uS:Tryz.prog.underlying 46=some (.slice 92):=by kernel_rfl
 have uB:Tryz.prog.underlying 4=some .bool:=by kernel_rfl
 have O:(Tryz.prog.info? 92).map (·.size)=some 99:=by kernel_rfl
 have hz1:¬((m:Int)=0):=by omega
 have hz2:¬((i:Int)=(n:Int)):=by omega
 have hzz:∀w,(Go.sizeOf 92).run Tryz.prog w= .ok 99 w:=λw=>by
  cases Z:Tryz.prog.info? 92 with
  |none=>simp[Z] at O
  |some i=>simp[Z] at O;simp[sizeOf,typeInfo,Z,O]
 have hov:∀lb U,(callFunc 260 #[.slice (some ⟨A,q,none⟩) m L,.slice (some ⟨b,f+(i+m)*99,none⟩) lb U]).run Tryz.prog w= .ok (.value (.bool false)) w:=λlb U=>by
  rw[run_callFunc_extern Tryz.func260 Xp Xp Xp (e:=Extern.SlicesOverlaps.overlaps #[46,46] #[4]) Xp,
   Lib.run_overlaps_apart w 46 4 92 uS 99 hzz ⟨A,q,none⟩ ⟨b,f+(i+m)*99,none⟩ m L lb U M tA tB kA kB hsa hsb T X R]
  rfl
 have hdl:(E.drop (i*99)).length=(n-i)*99:=by rw[Zy,hcl];omega
 have mixed:=mixed;have hw1:IntKind.i64.wrap ((i:Int)+(m:Int))=(i:Int)+(m:Int):=by rw[IntKind.wrap_i64];omega
 have hw2:IntKind.i64.wrap ((n:Int)+(m:Int))=(n:Int)+(m:Int):=by rw[IntKind.wrap_i64];omega
 have hb1:(0:Int)<=(i:Int)+(m:Int):=by omega
 have hin:i<=n:=by omega
 have htn:((i:Int)+(m:Int)).toNat=i+m:=by omega
 have hb2:¬(c=i+m):=by omega
 have hb3:(i:Int)<=(n:Int)+(m:Int):=by omega
 have hb4:¬(c=i):=by omega
 have D:∀G H sc,(Builtin.copy_ #[46,46] G #[.slice (some ⟨b,f+(i+m)*99,none⟩) (n+m-(i+m)) H,.slice (some ⟨b,f+i*99,none⟩) (n+m-i) sc]).run Tryz.prog w.drew= .ok (goInt (Nat.min (n+m-i) (n+m-(i+m)))) (w.drew.setCells b (f+(i+m)*99) (E.drop (i*99))):=λG H sc=>
  jiq w.drew _ _ G 92 b (f+(i+m)*99) (n+m-(i+m)) H ⟨b,f+i*99,none⟩ (n+m-i) sc 99 (E.drop (i*99)) uS O Qy
   (λj v B=>by rw[Addr.add_lit,ZM];exact hcs (i*99+j) v (by rwa[Z0] at B))
   (λj B=>by rw[ZM];exact F _ Xd) (λj B=>by rw[ZM];exact Q _ Xd) (λv hv=>V v (ZF hv))
 obtain⟨W1,y⟩:∃W1,W1=w.drew.setCells b (f+(i+m)*99) (E.drop (i*99)):=⟨_,rfl⟩
 have P:∀k,k<(n+m)*99->(W1.cell? ⟨b,f+k,none⟩).isSome=true:=λk hk=>by
  rw[y];exact qjq b _ _ _ (λj B=>by rw[ZM];exact F _ Xd) _ (F k hk)
 have J:∀(W:World),(∀x,W.cell? x=W1.cell? x) ->(∀x,W.frozen? x=W1.frozen? x) ->∀G H,(Builtin.copy_ #[46,46] G #[.slice (some ⟨b,f+i*99,none⟩) (n+m-i) H,.slice (some ⟨A,q,none⟩) m L]).run Tryz.prog W= .ok (goInt (Nat.min m (n+m-i))) (W.setCells b (f+i*99) I):=λW K hWf G H=>
  jiq W _ _ G 92 b (f+i*99) (n+m-i) H ⟨A,q,none⟩ m L 99 I uS O Yg
   (λj v B=>by
    rw[Addr.add_lit,K,y,World.cell?_setCells_out b _ _ _ _ (λh _=>absurd h M)];exact hvs j v B)
   (λj B=>by rw[K,ZM];exact P _ Xd) (λj B=>by rw[hWf,y,World.frozen?_setCells,ZM];exact Q _ Xd) h1v
 rw[<-y] at D;have hnt:Tryz.f234.ntmps=95:=by kernel_rfl
 go_enter Tryz.func234,hnt
 go_wp2_with (simp only[hov])
 go_region_law_o (refine jUq rfl _ _ 46 46 rfl _ _ Yh Yh (D _ _ _) ?_)
 go_wp2_with (at_builtin;refine qiq _ rfl _ _ 46 46 rfl _ _ Y Y (J _ (λ_=>rfl) (λ_=>rfl) _ _) ?_)
 go_ret
 first|exact⟨rfl,rfl⟩|exact⟨rfl,by rw[y]⟩
set_option maxHeartbeats 4000000 in
theorem fVq(a:Addr)(n c:Nat)(h:Addr)(m g:Nat)(w:World)(x:0<m)(b:Value)(w1:World)
  (v:∀q,(Builtin.append_ #[46,46] q #[.slice (some a) n c,.slice (some h) m g]).run Tryz.prog w= .ok b w1):
  Calls Tryz.prog 234 #[.slice (some a) n c,.int .i64 n,.slice (some h) m g] w λe j=>e= .returned b/\j=w1:=by
 have mixed:=mixed;have p:¬((m:Int)=0):=by omega
 have f:Tryz.f234.ntmps=95:=by kernel_rfl
 go_enter Tryz.func234,f
 go_wp2_with (at_builtin;refine Lib.wpList_append_run _ rfl _ _ _ _ rfl _ _ Y Y _ _ (v _) ?_)
 all_goals (go_ret;exact⟨rfl,rfl⟩)
set_option maxHeartbeats 4000000 in
theorem fUq(g:Addr)(m f:Nat)(w:World)(v:0<m)(a:Value)(w1:World)
  (p:∀j,(Builtin.append_ #[46,46] j #[.slice none 0 0,.slice (some g) m f]).run Tryz.prog w= .ok a w1):
  Calls Tryz.prog 234 #[.slice none 0 0,.int .i64 0,.slice (some g) m f] w λe h=>e= .returned a/\h=w1:=by
 have mixed:=mixed;have q:¬((m:Int)=0):=by omega
 have b:Tryz.f234.ntmps=95:=by kernel_rfl
 go_enter Tryz.func234,b
 go_wp2_with (at_builtin;refine Lib.wpList_append_run _ rfl _ _ _ _ rfl _ _ Y Y _ _ (p _) ?_)
 all_goals (go_ret;exact⟨rfl,rfl⟩)
set_option maxHeartbeats 4000000 in
theorem dkq(b q n c i R E m vc:Nat)(F I:List Value)(w:World)(hi:i<n)(hm:0<m)(hnc:n<=c)(hroom:c<n+m)(hbig:(n+m)*120<=140737488355328)(h63:n+m<=70368744177664)
  (V:F.length=n*99) (hvl:I.length=m*99)
  (T:∀j v,F[j]? =some v->w.cell? ⟨b,q+j,none⟩=some v)
  (hvs:∀j v,I[j]? =some v->w.cell? ⟨R,E+j,none⟩=some v) (h1c:∀v∈F,v.oneCell'=true) (h1v:∀v∈I,v.oneCell'=true):
  Calls Tryz.prog 234 #[.slice (some ⟨b,q,none⟩) n c,.int .i64 i,.slice (some ⟨R,E,none⟩) m vc] w λe w'=>
   ∃G ROW,n+m<=G/\G<=9223372036854775807/\ROW.size=G*99/\(∀j,j<i*99->ROW[j]? =F[j]?)/\e= .returned (.slice (some ⟨w.heap.size,0,none⟩) (n+m) G)/\
   w'=(((w.alloc (.cells ROW 92)).drew.setCells w.heap.size (i*99) I).drew).setCells w.heap.size ((i+m)*99) (F.drop (i*99)):=by
 have uS:Tryz.prog.underlying 46=some (.slice 92):=by kernel_rfl
 have uI:Tryz.prog.underlying 3=some (.int .i64):=by kernel_rfl
 have sZ:(Tryz.prog.info? 92).map (·.size)=some 99:=by kernel_rfl
 have bZ:(Tryz.prog.info? 92).map (·.bytes)=some 120:=by kernel_rfl
 have zZ:((Tryz.prog.info? 92).bind (·.zero)).map (·.cells.size)=some 99:=by kernel_rfl
 have mixed:=mixed
 obtain⟨O,J⟩:∃O,Tryz.prog.info? 92=some O:=by
  cases hq:Tryz.prog.info? 92 with
  |none=>simp[hq] at sZ
  |some i=>exact⟨i,rfl⟩
 have hzs:O.size=99:=by simpa[J] using sZ
 have Z:O.bytes=120:=by simpa[J] using bZ
 obtain⟨z,hz0,hzc⟩:∃z,O.zero=some z/\z.cells.size=99:=by
  rw[J,Option.bind_some] at zZ;cases hq:O.zero with
  |none=>simp[hq] at zZ
  |some z=>exact⟨z,rfl,by simpa[hq] using zZ⟩
 have hz1:¬((m:Int)=0):=by omega
 have hz2:¬((i:Int)=(n:Int)):=by omega
 have hz3:(c:Int)<(n:Int)+(m:Int):=by omega
 have hbw:b<w.heap.size:=block_lt_of_cell (T 0 _ (Za Xd));have hvw:R<w.heap.size:=block_lt_of_cell (hvs 0 _ (Za Xd));have hkk:(n:Int)+(m:Int) -(i:Int)=((n+m-i:Nat):Int):=by omega
 have X:i+(n+m-i)=n+m:=by omega
 have Q:(Builtin.firstCells O.size i (.slice (some ⟨b,q,none⟩) i c)).run Tryz.prog w.drew= .ok (F.take (i*99)).toArray w.drew:=by
  rw[hzs]
  exact run_firstCells_some w.drew 99 i ⟨b,q,none⟩ i c (F.take (i*99)) Yn (λj v B=>by
   rw[Addr.add_lit];rw[YJ] at B;split at B
   .exact T j v B
   .cases B)
 have M:∀L,(Builtin.append_ #[46,3] L #[.slice (some ⟨b,q,none⟩) i c,.int .i64 ((n:Int)+(m:Int) -(i:Int))]).run Tryz.prog w=
   .ok (.slice (some ⟨w.heap.size,0,none⟩) (n+m) (grownCap w (n+m) c 92)) (w.drew.alloc (.cells ((F.take (i*99)).toArray++Builtin.zeroCells z.cells (n+m-i)++Builtin.zeroCells z.cells (grownCap w (n+m) c 92-(n+m))) 92)):=λL=>by
  have h:=Lib.run_append_grow_zeros w 46 3 L 92 O _ .i64 .i64 uS uI J hz0 (some ⟨b,q,none⟩) i c (F.take (i*99)) Q (n+m-i) Xd Xd Xd Xd (by rw[Z];omega) (by rw[Z,X];exact growslice_fits hroom hbig);rw[X] at h;rw[hkk];exact h
 obtain⟨G,hG⟩:∃G,G=grownCap w (n+m) c 92:=⟨_,rfl⟩
 obtain⟨ROW,D⟩:∃ROW:Array Value,ROW=(F.take (i*99)).toArray++Builtin.zeroCells z.cells (n+m-i)++Builtin.zeroCells z.cells (G-(n+m)):=⟨_,rfl⟩
 rw[<-hG] at M;rw[<-D] at M;have hGn:n+m<=G:=by rw[hG];exact grownCap_ge w _ _ _
 have hRs:ROW.size=G*99:=by
  rw[D];simp only[Builtin.zeroCells,Array.size_append,Array.size_map,Array.size_range,hzc,ZU,Zu,V];omega
 have hRl:(n+m)*99<=ROW.size:=by rw[hRs];omega
 have hRt:∀j,j<i*99->ROW[j]? =F[j]? :=λj B=>by
  rw[D,Array.append_assoc,Array.getElem?_append_left (by simp only[ZU,Zu,V];omega)];simp only[List.getElem?_toArray,YJ];rw[Zl B]
 obtain⟨W1,H⟩:∃W1,W1=w.drew.alloc (.cells ROW 92):=⟨_,rfl⟩
 rw[<-H] at M
 have hN:∀j,j<(n+m)*99->(W1.cell? ⟨w.heap.size,j,none⟩).isSome=true:=λj B=>by
  rw[H,World.cell?_alloc_at (w:=w.drew) ROW _ w.heap.size j rfl,ZI Xd];rfl
 have hNf:∀j,W1.frozen? ⟨w.heap.size,j,none⟩=false:=λj=>by rw[H];exact World.frozen?_alloc_at (w:=w.drew) ROW _ w.heap.size j rfl
 have hOb:∀j v,w.cell? ⟨b,j,none⟩=some v->W1.cell? ⟨b,j,none⟩=some v:=λj v h=>by rw[H,World.cell?_alloc_past (w:=w.drew) _ b j hbw];exact h
 have hOv:∀j v,w.cell? ⟨R,j,none⟩=some v->W1.cell? ⟨R,j,none⟩=some v:=λj v h=>by rw[H,World.cell?_alloc_past (w:=w.drew) _ R j hvw];exact h
 have hcpA:∀(W:World),(∀x,W.cell? x=W1.cell? x) ->(∀x,W.frozen? x=W1.frozen? x) ->∀L U,(Builtin.copy_ #[46,46] L #[.slice (some ⟨w.heap.size,i*99,none⟩) (n+m-i) U,.slice (some ⟨R,E,none⟩) m vc]).run Tryz.prog W= .ok (goInt (Nat.min m (n+m-i))) (W.setCells w.heap.size (i*99) I):=λW K hWf L U=>
  jiq W _ _ L 92 w.heap.size (i*99) (n+m-i) U ⟨R,E,none⟩ m vc 99 I uS sZ Yg
   (λj v B=>by rw[Addr.add_lit,K];exact hOv _ v (hvs j v B))
   (λj B=>by rw[K];exact hN _ Xd) (λj B=>by rw[hWf];exact hNf _) h1v
 have hG63:G<=9223372036854775807:=by
  have:=grownCap_le_maxLen w (n+m) c 92 (by unfold maxLen;omega);rw[<-hG] at this;unfold maxLen at this;omega
 have hGi:¬(G=i):=by omega
 have hGim:¬(G=i+m):=by omega
 have hci:¬(c=i):=by omega
 have hbN:b≠w.heap.size:=by omega
 have hdl:(F.drop (i*99)).length=(n-i)*99:=by rw[Zy,V];omega
 have P:∀(W:World),(∀x,W.cell? x=(W1.setCells w.heap.size (i*99) I).cell? x) ->(∀x,W.frozen? x=(W1.setCells w.heap.size (i*99) I).frozen? x) ->∀L U sc,(Builtin.copy_ #[46,46] L #[.slice (some ⟨w.heap.size,(i+m)*99,none⟩) (n+m-(i+m)) U,.slice (some ⟨b,q+i*99,none⟩) (n-i) sc]).run Tryz.prog W= .ok (goInt (Nat.min (n-i) (n+m-(i+m)))) (W.setCells w.heap.size ((i+m)*99) (F.drop (i*99))):=λW K hWf L U sc=>
  jiq W _ _ L 92 w.heap.size ((i+m)*99) (n+m-(i+m)) U ⟨b,q+i*99,none⟩ (n-i) sc 99 (F.drop (i*99)) uS sZ Jb
   (λj v B=>by
    rw[Addr.add_lit,K,World.cell?_setCells_out _ _ _ _ _ (λh _=>absurd h hbN),ZM];exact hOb _ v (T (i*99+j) v (by rwa[Z0] at B)))
   (λj B=>by rw[K];exact qjq _ _ _ _ (λt ht=>hN _ Xd) _ (hN _ Xd))
   (λj B=>by rw[hWf,World.frozen?_setCells];exact hNf _) (λv hv=>h1c v (ZF hv))
 subst H;have hE1:∀x,((w.alloc (.cells ROW 92)).drew).cell? x=(w.drew.alloc (.cells ROW 92)).cell? x:=λx=>rfl
 have hE2:∀x,((w.alloc (.cells ROW 92)).drew).frozen? x=(w.drew.alloc (.cells ROW 92)).frozen? x:=λx=>rfl
 have hF1:∀x,(((w.alloc (.cells ROW 92)).drew.setCells w.heap.size (i*99) I).drew).cell? x=((w.drew.alloc (.cells ROW 92)).setCells w.heap.size (i*99) I).cell? x:=λx=>rfl
 have hF2:∀x,(((w.alloc (.cells ROW 92)).drew.setCells w.heap.size (i*99) I).drew).frozen? x=((w.drew.alloc (.cells ROW 92)).setCells w.heap.size (i*99) I).frozen? x:=λx=>rfl
 have hw1:IntKind.i64.wrap ((i:Int)+(m:Int))=(i:Int)+(m:Int):=by rw[IntKind.wrap_i64];omega
 have hw2:IntKind.i64.wrap ((n:Int)+(m:Int))=(n:Int)+(m:Int):=by rw[IntKind.wrap_i64];omega
 have hb1:(0:Int)<=(i:Int)+(m:Int):=by omega
 have hin:i<=n:=by omega
 have htn:((i:Int)+(m:Int)).toNat=i+m:=by omega
 have hb3:(i:Int)<=(n:Int):=by omega
 have hnt:Tryz.f234.ntmps=95:=by kernel_rfl
 clear hkk X Q D hRl hG sZ bZ zZ J hzs Z hz0 hzc;go_enter Tryz.func234,hnt
 go_wp2_with (first
  |(at_builtin;refine Lib.wpList_append_run _ rfl _ _ _ _ rfl _ _ Y Y _ _ (M _) ?_)
  |(at_builtin;refine qiq _ rfl _ _ 46 46 rfl _ _ Y Y (hcpA _ hE1 hE2 _ _) ?_)
  |(at_builtin;refine qiq _ rfl _ _ 46 46 rfl _ _ Y Y (P _ (λ_=>rfl) (λ_=>rfl) _ _ _) ?_))
 go_region_law_o (refine jUq rfl _ _ 46 46 rfl (.slice (some ⟨w.heap.size,(i+m)*99,none⟩) (n+m-(i+m)) (G-(i+m))) (.slice (some ⟨b,q+i*99,none⟩) (n-i) (c-i)) Yh Yh (P _ hF1 hF2 3 (G-(i+m)) (c-i)) ?_)
 go_wp2
 go_ret
 exact⟨G,ROW,hGn,hG63,hRs,hRt,rfl,rfl⟩
theorem s1q:InsFn Tryz.prog 234 46 92 99 120:=⟨Go.Proofs.enters_of Tryz.func234 Xp rfl,bVq,fVq,fUq,dkq⟩
theorem n1q{C:Cfg}:qVq Tryz.prog C 234 (aGq tGq 46 92 99 120):=bRq rdq s1q (j:=B9q) (k:=wKq) Xp rfl Xp Y Y
set_option maxHeartbeats 4000000 in
theorem bUq(b f n c i A q m L:Nat)(E I:List Value)(w:World)(hi:i<n)(hm:0<m)(hroom:n+m<=c)(hc63:n+m<=70368744177664)(M:A≠b)
  (hcl:E.length=n*33) (hvl:I.length=m*33)
  (hcs:∀j v,E[j]? =some v->w.cell? ⟨b,f+j,none⟩=some v) (F:∀j,j<(n+m)*33->(w.cell? ⟨b,f+j,none⟩).isSome=true) (Q:∀j,j<(n+m)*33->w.frozen? ⟨b,f+j,none⟩=false)
  (hvs:∀j v,I[j]? =some v->w.cell? ⟨A,q+j,none⟩=some v) (V:∀v∈E,v.oneCell'=true) (h1v:∀v∈I,v.oneCell'=true)
  (tA tB:TypeId) (kA kB:Nat) (hsa:w.shape? A=some (tA,kA)) (hsb:w.shape? b=some (tB,kB)) (T:kB≠0) (X:w.frozen? ⟨A,q,none⟩=false) (R:w.frozen? ⟨A,kA,none⟩=false):
  Calls Tryz.prog 238 #[.slice (some ⟨b,f,none⟩) n c,.int .i64 i,.slice (some ⟨A,q,none⟩) m L] w λe w'=>
   e= .returned (.slice (some ⟨b,f,none⟩) (n+m) c)/\w'=(w.drew.setCells b (f+(i+m)*33) (E.drop (i*33))).setCells b (f+i*33) I:=by
 have uS:Tryz.prog.underlying 234=some (.slice 240):=by kernel_rfl
 have uB:Tryz.prog.underlying 4=some .bool:=by kernel_rfl
 have O:(Tryz.prog.info? 240).map (·.size)=some 33:=by kernel_rfl
 have hz1:¬((m:Int)=0):=by omega
 have hz2:¬((i:Int)=(n:Int)):=by omega
 have hzz:∀w,(Go.sizeOf 240).run Tryz.prog w= .ok 33 w:=λw=>by
  cases Z:Tryz.prog.info? 240 with
  |none=>simp[Z] at O
  |some i=>simp[Z] at O;simp[sizeOf,typeInfo,Z,O]
 have hov:∀lb U,(callFunc 263 #[.slice (some ⟨A,q,none⟩) m L,.slice (some ⟨b,f+(i+m)*33,none⟩) lb U]).run Tryz.prog w= .ok (.value (.bool false)) w:=λlb U=>by
  rw[run_callFunc_extern Tryz.func263 Xp Xp Xp (e:=Extern.SlicesOverlaps.overlaps #[234,234] #[4]) Xp,
   Lib.run_overlaps_apart w 234 4 240 uS 33 hzz ⟨A,q,none⟩ ⟨b,f+(i+m)*33,none⟩ m L lb U M tA tB kA kB hsa hsb T X R]
  rfl
 have hdl:(E.drop (i*33)).length=(n-i)*33:=by rw[Zy,hcl];omega
 have mixed:=mixed;have hw1:IntKind.i64.wrap ((i:Int)+(m:Int))=(i:Int)+(m:Int):=by rw[IntKind.wrap_i64];omega
 have hw2:IntKind.i64.wrap ((n:Int)+(m:Int))=(n:Int)+(m:Int):=by rw[IntKind.wrap_i64];omega
 have hb1:(0:Int)<=(i:Int)+(m:Int):=by omega
 have hin:i<=n:=by omega
 have htn:((i:Int)+(m:Int)).toNat=i+m:=by omega
 have hb2:¬(c=i+m):=by omega
 have hb3:(i:Int)<=(n:Int)+(m:Int):=by omega
 have hb4:¬(c=i):=by omega
 have D:∀G H sc,(Builtin.copy_ #[234,234] G #[.slice (some ⟨b,f+(i+m)*33,none⟩) (n+m-(i+m)) H,.slice (some ⟨b,f+i*33,none⟩) (n+m-i) sc]).run Tryz.prog w.drew= .ok (goInt (Nat.min (n+m-i) (n+m-(i+m)))) (w.drew.setCells b (f+(i+m)*33) (E.drop (i*33))):=λG H sc=>
  jiq w.drew _ _ G 240 b (f+(i+m)*33) (n+m-(i+m)) H ⟨b,f+i*33,none⟩ (n+m-i) sc 33 (E.drop (i*33)) uS O Qy
   (λj v B=>by rw[Addr.add_lit,ZM];exact hcs (i*33+j) v (by rwa[Z0] at B))
   (λj B=>by rw[ZM];exact F _ Xd) (λj B=>by rw[ZM];exact Q _ Xd) (λv hv=>V v (ZF hv))
 obtain⟨W1,y⟩:∃W1,W1=w.drew.setCells b (f+(i+m)*33) (E.drop (i*33)):=⟨_,rfl⟩
 have P:∀k,k<(n+m)*33->(W1.cell? ⟨b,f+k,none⟩).isSome=true:=λk hk=>by
  rw[y];exact qjq b _ _ _ (λj B=>by rw[ZM];exact F _ Xd) _ (F k hk)
 have J:∀(W:World),(∀x,W.cell? x=W1.cell? x) ->(∀x,W.frozen? x=W1.frozen? x) ->∀G H,(Builtin.copy_ #[234,234] G #[.slice (some ⟨b,f+i*33,none⟩) (n+m-i) H,.slice (some ⟨A,q,none⟩) m L]).run Tryz.prog W= .ok (goInt (Nat.min m (n+m-i))) (W.setCells b (f+i*33) I):=λW K hWf G H=>
  jiq W _ _ G 240 b (f+i*33) (n+m-i) H ⟨A,q,none⟩ m L 33 I uS O Yg
   (λj v B=>by
    rw[Addr.add_lit,K,y,World.cell?_setCells_out b _ _ _ _ (λh _=>absurd h M)];exact hvs j v B)
   (λj B=>by rw[K,ZM];exact P _ Xd) (λj B=>by rw[hWf,y,World.frozen?_setCells,ZM];exact Q _ Xd) h1v
 rw[<-y] at D;have hnt:Tryz.f238.ntmps=95:=by kernel_rfl
 go_enter Tryz.func238,hnt
 go_wp2_with (simp only[hov])
 go_region_law_o (refine jUq rfl _ _ 234 234 rfl _ _ Yh Yh (D _ _ _) ?_)
 go_wp2_with (at_builtin;refine qiq _ rfl _ _ 234 234 rfl _ _ Y Y (J _ (λ_=>rfl) (λ_=>rfl) _ _) ?_)
 go_ret
 first|exact⟨rfl,rfl⟩|exact⟨rfl,by rw[y]⟩
set_option maxHeartbeats 4000000 in
theorem fTq(a:Addr)(n c:Nat)(h:Addr)(m g:Nat)(w:World)(x:0<m)(b:Value)(w1:World)
  (v:∀q,(Builtin.append_ #[234,234] q #[.slice (some a) n c,.slice (some h) m g]).run Tryz.prog w= .ok b w1):
  Calls Tryz.prog 238 #[.slice (some a) n c,.int .i64 n,.slice (some h) m g] w λe j=>e= .returned b/\j=w1:=by
 have mixed:=mixed;have p:¬((m:Int)=0):=by omega
 have f:Tryz.f238.ntmps=95:=by kernel_rfl
 go_enter Tryz.func238,f
 go_wp2_with (at_builtin;refine Lib.wpList_append_run _ rfl _ _ _ _ rfl _ _ Y Y _ _ (v _) ?_)
 all_goals (go_ret;exact⟨rfl,rfl⟩)
set_option maxHeartbeats 4000000 in
theorem fSq(g:Addr)(m f:Nat)(w:World)(v:0<m)(a:Value)(w1:World)
  (p:∀j,(Builtin.append_ #[234,234] j #[.slice none 0 0,.slice (some g) m f]).run Tryz.prog w= .ok a w1):
  Calls Tryz.prog 238 #[.slice none 0 0,.int .i64 0,.slice (some g) m f] w λe h=>e= .returned a/\h=w1:=by
 have mixed:=mixed;have q:¬((m:Int)=0):=by omega
 have b:Tryz.f238.ntmps=95:=by kernel_rfl
 go_enter Tryz.func238,b
 go_wp2_with (at_builtin;refine Lib.wpList_append_run _ rfl _ _ _ _ rfl _ _ Y Y _ _ (p _) ?_)
 all_goals (go_ret;exact⟨rfl,rfl⟩)
set_option maxHeartbeats 4000000 in
theorem djq(b q n c i R E m vc:Nat)(F I:List Value)(w:World)(hi:i<n)(hm:0<m)(hnc:n<=c)(hroom:c<n+m)(hbig:(n+m)*56<=140737488355328)(h63:n+m<=70368744177664)
  (V:F.length=n*33) (hvl:I.length=m*33)
  (T:∀j v,F[j]? =some v->w.cell? ⟨b,q+j,none⟩=some v)
  (hvs:∀j v,I[j]? =some v->w.cell? ⟨R,E+j,none⟩=some v) (h1c:∀v∈F,v.oneCell'=true) (h1v:∀v∈I,v.oneCell'=true):
  Calls Tryz.prog 238 #[.slice (some ⟨b,q,none⟩) n c,.int .i64 i,.slice (some ⟨R,E,none⟩) m vc] w λe w'=>
   ∃G ROW,n+m<=G/\G<=9223372036854775807/\ROW.size=G*33/\(∀j,j<i*33->ROW[j]? =F[j]?)/\e= .returned (.slice (some ⟨w.heap.size,0,none⟩) (n+m) G)/\
   w'=(((w.alloc (.cells ROW 240)).drew.setCells w.heap.size (i*33) I).drew).setCells w.heap.size ((i+m)*33) (F.drop (i*33)):=by
 have uS:Tryz.prog.underlying 234=some (.slice 240):=by kernel_rfl
 have uI:Tryz.prog.underlying 3=some (.int .i64):=by kernel_rfl
 have sZ:(Tryz.prog.info? 240).map (·.size)=some 33:=by kernel_rfl
 have bZ:(Tryz.prog.info? 240).map (·.bytes)=some 56:=by kernel_rfl
 have zZ:((Tryz.prog.info? 240).bind (·.zero)).map (·.cells.size)=some 33:=by kernel_rfl
 have mixed:=mixed
 obtain⟨O,J⟩:∃O,Tryz.prog.info? 240=some O:=by
  cases hq:Tryz.prog.info? 240 with
  |none=>simp[hq] at sZ
  |some i=>exact⟨i,rfl⟩
 have hzs:O.size=33:=by simpa[J] using sZ
 have Z:O.bytes=56:=by simpa[J] using bZ
 obtain⟨z,hz0,hzc⟩:∃z,O.zero=some z/\z.cells.size=33:=by
  rw[J,Option.bind_some] at zZ;cases hq:O.zero with
  |none=>simp[hq] at zZ
  |some z=>exact⟨z,rfl,by simpa[hq] using zZ⟩
 have hz1:¬((m:Int)=0):=by omega
 have hz2:¬((i:Int)=(n:Int)):=by omega
 have hz3:(c:Int)<(n:Int)+(m:Int):=by omega
 have hbw:b<w.heap.size:=block_lt_of_cell (T 0 _ (Za Xd));have hvw:R<w.heap.size:=block_lt_of_cell (hvs 0 _ (Za Xd));have hkk:(n:Int)+(m:Int) -(i:Int)=((n+m-i:Nat):Int):=by omega
 have X:i+(n+m-i)=n+m:=by omega
 have Q:(Builtin.firstCells O.size i (.slice (some ⟨b,q,none⟩) i c)).run Tryz.prog w.drew= .ok (F.take (i*33)).toArray w.drew:=by
  rw[hzs]
  exact run_firstCells_some w.drew 33 i ⟨b,q,none⟩ i c (F.take (i*33)) Yn (λj v B=>by
   rw[Addr.add_lit];rw[YJ] at B;split at B
   .exact T j v B
   .cases B)
 have M:∀L,(Builtin.append_ #[234,3] L #[.slice (some ⟨b,q,none⟩) i c,.int .i64 ((n:Int)+(m:Int) -(i:Int))]).run Tryz.prog w=
   .ok (.slice (some ⟨w.heap.size,0,none⟩) (n+m) (grownCap w (n+m) c 240)) (w.drew.alloc (.cells ((F.take (i*33)).toArray++Builtin.zeroCells z.cells (n+m-i)++Builtin.zeroCells z.cells (grownCap w (n+m) c 240-(n+m))) 240)):=λL=>by
  have h:=Lib.run_append_grow_zeros w 234 3 L 240 O _ .i64 .i64 uS uI J hz0 (some ⟨b,q,none⟩) i c (F.take (i*33)) Q (n+m-i) Xd Xd Xd Xd (by rw[Z];omega) (by rw[Z,X];exact growslice_fits hroom hbig);rw[X] at h;rw[hkk];exact h
 obtain⟨G,hG⟩:∃G,G=grownCap w (n+m) c 240:=⟨_,rfl⟩
 obtain⟨ROW,D⟩:∃ROW:Array Value,ROW=(F.take (i*33)).toArray++Builtin.zeroCells z.cells (n+m-i)++Builtin.zeroCells z.cells (G-(n+m)):=⟨_,rfl⟩
 rw[<-hG] at M;rw[<-D] at M;have hGn:n+m<=G:=by rw[hG];exact grownCap_ge w _ _ _
 have hRs:ROW.size=G*33:=by
  rw[D];simp only[Builtin.zeroCells,Array.size_append,Array.size_map,Array.size_range,hzc,ZU,Zu,V];omega
 have hRl:(n+m)*33<=ROW.size:=by rw[hRs];omega
 have hRt:∀j,j<i*33->ROW[j]? =F[j]? :=λj B=>by
  rw[D,Array.append_assoc,Array.getElem?_append_left (by simp only[ZU,Zu,V];omega)];simp only[List.getElem?_toArray,YJ];rw[Zl B]
 obtain⟨W1,H⟩:∃W1,W1=w.drew.alloc (.cells ROW 240):=⟨_,rfl⟩
 rw[<-H] at M
 have hN:∀j,j<(n+m)*33->(W1.cell? ⟨w.heap.size,j,none⟩).isSome=true:=λj B=>by
  rw[H,World.cell?_alloc_at (w:=w.drew) ROW _ w.heap.size j rfl,ZI Xd];rfl
 have hNf:∀j,W1.frozen? ⟨w.heap.size,j,none⟩=false:=λj=>by rw[H];exact World.frozen?_alloc_at (w:=w.drew) ROW _ w.heap.size j rfl
 have hOb:∀j v,w.cell? ⟨b,j,none⟩=some v->W1.cell? ⟨b,j,none⟩=some v:=λj v h=>by rw[H,World.cell?_alloc_past (w:=w.drew) _ b j hbw];exact h
 have hOv:∀j v,w.cell? ⟨R,j,none⟩=some v->W1.cell? ⟨R,j,none⟩=some v:=λj v h=>by rw[H,World.cell?_alloc_past (w:=w.drew) _ R j hvw];exact h
 have hcpA:∀(W:World),(∀x,W.cell? x=W1.cell? x) ->(∀x,W.frozen? x=W1.frozen? x) ->∀L U,(Builtin.copy_ #[234,234] L #[.slice (some ⟨w.heap.size,i*33,none⟩) (n+m-i) U,.slice (some ⟨R,E,none⟩) m vc]).run Tryz.prog W= .ok (goInt (Nat.min m (n+m-i))) (W.setCells w.heap.size (i*33) I):=λW K hWf L U=>
  jiq W _ _ L 240 w.heap.size (i*33) (n+m-i) U ⟨R,E,none⟩ m vc 33 I uS sZ Yg
   (λj v B=>by rw[Addr.add_lit,K];exact hOv _ v (hvs j v B))
   (λj B=>by rw[K];exact hN _ Xd) (λj B=>by rw[hWf];exact hNf _) h1v
 have hG63:G<=9223372036854775807:=by
  have:=grownCap_le_maxLen w (n+m) c 240 (by unfold maxLen;omega);rw[<-hG] at this;unfold maxLen at this;omega
 have hGi:¬(G=i):=by omega
 have hGim:¬(G=i+m):=by omega
 have hci:¬(c=i):=by omega
 have hbN:b≠w.heap.size:=by omega
 have hdl:(F.drop (i*33)).length=(n-i)*33:=by rw[Zy,V];omega
 have P:∀(W:World),(∀x,W.cell? x=(W1.setCells w.heap.size (i*33) I).cell? x) ->(∀x,W.frozen? x=(W1.setCells w.heap.size (i*33) I).frozen? x) ->∀L U sc,(Builtin.copy_ #[234,234] L #[.slice (some ⟨w.heap.size,(i+m)*33,none⟩) (n+m-(i+m)) U,.slice (some ⟨b,q+i*33,none⟩) (n-i) sc]).run Tryz.prog W= .ok (goInt (Nat.min (n-i) (n+m-(i+m)))) (W.setCells w.heap.size ((i+m)*33) (F.drop (i*33))):=λW K hWf L U sc=>
  jiq W _ _ L 240 w.heap.size ((i+m)*33) (n+m-(i+m)) U ⟨b,q+i*33,none⟩ (n-i) sc 33 (F.drop (i*33)) uS sZ Jb
   (λj v B=>by
    rw[Addr.add_lit,K,World.cell?_setCells_out _ _ _ _ _ (λh _=>absurd h hbN),ZM];exact hOb _ v (T (i*33+j) v (by rwa[Z0] at B)))
   (λj B=>by rw[K];exact qjq _ _ _ _ (λt ht=>hN _ Xd) _ (hN _ Xd))
   (λj B=>by rw[hWf,World.frozen?_setCells];exact hNf _) (λv hv=>h1c v (ZF hv))
 subst H;have hE1:∀x,((w.alloc (.cells ROW 240)).drew).cell? x=(w.drew.alloc (.cells ROW 240)).cell? x:=λx=>rfl
 have hE2:∀x,((w.alloc (.cells ROW 240)).drew).frozen? x=(w.drew.alloc (.cells ROW 240)).frozen? x:=λx=>rfl
 have hF1:∀x,(((w.alloc (.cells ROW 240)).drew.setCells w.heap.size (i*33) I).drew).cell? x=((w.drew.alloc (.cells ROW 240)).setCells w.heap.size (i*33) I).cell? x:=λx=>rfl
 have hF2:∀x,(((w.alloc (.cells ROW 240)).drew.setCells w.heap.size (i*33) I).drew).frozen? x=((w.drew.alloc (.cells ROW 240)).setCells w.heap.size (i*33) I).frozen? x:=λx=>rfl
 have hw1:IntKind.i64.wrap ((i:Int)+(m:Int))=(i:Int)+(m:Int):=by rw[IntKind.wrap_i64];omega
 have hw2:IntKind.i64.wrap ((n:Int)+(m:Int))=(n:Int)+(m:Int):=by rw[IntKind.wrap_i64];omega
 have hb1:(0:Int)<=(i:Int)+(m:Int):=by omega
 have hin:i<=n:=by omega
 have htn:((i:Int)+(m:Int)).toNat=i+m:=by omega
 have hb3:(i:Int)<=(n:Int):=by omega
 have hnt:Tryz.f238.ntmps=95:=by kernel_rfl
 clear hkk X Q D hRl hG sZ bZ zZ J hzs Z hz0 hzc;go_enter Tryz.func238,hnt
 go_wp2_with (first
  |(at_builtin;refine Lib.wpList_append_run _ rfl _ _ _ _ rfl _ _ Y Y _ _ (M _) ?_)
  |(at_builtin;refine qiq _ rfl _ _ 234 234 rfl _ _ Y Y (hcpA _ hE1 hE2 _ _) ?_)
  |(at_builtin;refine qiq _ rfl _ _ 234 234 rfl _ _ Y Y (P _ (λ_=>rfl) (λ_=>rfl) _ _ _) ?_))
 go_region_law_o (refine jUq rfl _ _ 234 234 rfl (.slice (some ⟨w.heap.size,(i+m)*33,none⟩) (n+m-(i+m)) (G-(i+m))) (.slice (some ⟨b,q+i*33,none⟩) (n-i) (c-i)) Yh Yh (P _ hF1 hF2 3 (G-(i+m)) (c-i)) ?_)
 go_wp2
 go_ret
 exact⟨G,ROW,hGn,hG63,hRs,hRt,rfl,rfl⟩
theorem s0q:InsFn Tryz.prog 238 234 240 33 56:=⟨Go.Proofs.enters_of Tryz.func238 Xp rfl,bUq,fTq,fSq,djq⟩
theorem n0q{C:Cfg}:qVq Tryz.prog C 238 (aGq tGq 234 240 33 56):=bRq rdq s0q (j:=rNq) (k:=mAq) Xp rfl Xp Y Y
set_option maxHeartbeats 4000000 in
theorem f5q(b g n c i:Nat)(R:List Value)(w:World)(hi:i<n)(hnc:n<=c)(h63:n<=70368744177664)
  (T:R.length=n*4) (G:∀j v,R[j]? =some v->w.cell? ⟨b,g+j,none⟩=some v) (H:∀j,j<n*4->w.frozen? ⟨b,g+j,none⟩=false) (M:∀v∈R,v.oneCell'=true):
  Calls Tryz.prog 136 #[.slice (some ⟨b,g,none⟩) n c,.int .i64 i,.int .i64 ((i+1:Nat):Int)] w λe w'=>
   ∃Z:List Value,Z.length=4/\e= .returned (.slice (some ⟨b,g,none⟩) (n-1) c)/\w'=(w.drew.setCells b (g+i*4) (R.drop ((i+1)*4))).setCells b (g+(n-1)*4) Z:=by
 have uS:Tryz.prog.underlying 42=some (.slice 247):=by kernel_rfl
 have sZ:(Tryz.prog.info? 247).map (·.size)=some 4:=by kernel_rfl
 have U:((Tryz.prog.info? 247).bind (·.zero)).map (λz=>(z.cells.size,(Builtin.zeroCells z.cells 1).toList.all λv=>v.oneCell'))=some (4,true):=by kernel_rfl
 have mixed:=mixed
 obtain⟨J,E⟩:∃J,Tryz.prog.info? 247=some J:=by
  cases X:Tryz.prog.info? 247 with
  |none=>simp[X] at sZ
  |some i=>exact⟨i,rfl⟩
 have hzs:J.size=4:=by simpa[E] using sZ
 obtain⟨z,hz0,P,V⟩:∃z,J.zero=some z/\z.cells.size=4/\(Builtin.zeroCells z.cells 1).toList.all (λv=>v.oneCell')=true:=by
  rw[E,Option.bind_some] at U;cases X:J.zero with
  |none=>simp[X] at U
  |some z=>
   rw[X,Option.map_some] at U;have:=ZA U;exact⟨z,rfl,Zc Prod.fst this,Zc Prod.snd this⟩
 have W:∀w,(zeroValue 247).run Tryz.prog w= .ok z w:=λw=>by simp[zeroValue,typeInfo,E,hz0]
 obtain⟨Z,Y⟩:∃Z,Z=(Builtin.zeroCells z.cells 1).toList:=⟨_,rfl⟩
 have hZl:Z.length=4:=by rw[Y];simp[Builtin.zeroCells,P]
 obtain⟨q,x⟩:∃q,q=R.drop ((i+1)*4):=⟨_,rfl⟩
 have B:q.length=(n-(i+1))*4:=by rw[x,Zy,T];omega
 obtain⟨A,hA,Q⟩:∃A:Addr,(if c=i+1 then some (⟨b,g,none⟩:Addr) else some ⟨b,g+(i+1)*4,none⟩)=some A/\Hid (∀t u,q[t]? =some u->w.drew.cell? (A.add t)=some u):=by
  by_cases h:c=i+1
  .refine⟨⟨b,g,none⟩,by simp[h],λt u F=>?_⟩;have h0:q.length=0:=by rw[B,show n-(i+1)=0 by omega,Nat.zero_mul]
   rw[ZZ.1 h0] at F;simp at F
  .refine⟨⟨b,g+(i+1)*4,none⟩,by simp[h],λt u F=>?_⟩;rw[x,Z0] at F;rw[Addr.add_lit,ZM];exact G _ u F
 have y:∀j,j<n*4->(w.drew.cell? ⟨b,g+j,none⟩).isSome=true:=λj I=>by
  show(w.cell? _).isSome=true;rw[G j _ (Za Xd)];rfl
 have s1:Hid (q.length=(n-(i+1))*4):=B;have s2:Hid (∀u∈q,u.oneCell'=true):=λu F=>M u (ZF (x▸F))
 have s3:Hid (∀t,t<q.length->(w.drew.cell? ⟨b,g+i*4+t,none⟩).isSome=true/\w.drew.frozen? ⟨b,g+i*4+t,none⟩=false):=by
  intro t ht;rw[B] at ht;rw[ZM];exact⟨y _ Xd,H _ Xd⟩
 obtain⟨W1,D⟩:∃W1,W1=w.drew.setCells b (g+i*4) q:=⟨_,rfl⟩
 have K:∀j,j<n*4->(W1.cell? ⟨b,g+j,none⟩).isSome=true:=λj I=>by
  rw[D];exact qjq b _ _ _ (λt ht=>(s3.out t ht).1) _ (y j I)
 have O:∀j,j<n*4->W1.frozen? ⟨b,g+j,none⟩=false:=λj I=>by
  rw[D,World.frozen?_setCells];exact H j I
 have hcl1:∀ty cc,(Builtin.clear_ #[42] ty #[.slice (some ⟨b,g+(n-1)*4,none⟩) 1 cc]).run Tryz.prog W1= .ok (.tuple #[]) (W1.setCells b (g+(n-1)*4) Z):=λty cc=>by
  rw[Y];exact v1q W1 42 247 ty z uS W (λv W=>List.all_eq_true.1 V v W) b _ cc (λj I=>by rw[ZM];exact K _ Xd) (λj I=>by rw[ZM];exact O _ Xd)
 have hW:Hid (W1=w.drew.setCells b (g+i*4) q):=D;rw[<-x,<-D];clear D K O y G H x B sZ U W V P Y M T;have q1:i+1<=n:=by omega
 have q2:i<=c:=by omega
 have q3:i+1<=c:=by omega
 have q4:i<=n:=by omega
 have q5:¬((i:Int)=(i:Int)+1):=by omega
 have q6:n-1<=n:=by omega
 have r1:(0:Int)<=(i:Int)+1:=by omega
 have r2:((i:Int)+1).toNat=i+1:=by omega
 have r3:(i:Int)+1<=(n:Int):=by omega
 have q7:i+(n-(i+1))=n-1:=by omega
 have q8:n-(n-1)=1:=by omega
 have q9:¬(c=n-1):=by omega
 have q10:n-1<=c:=by omega
 have hnt:Tryz.f136.ntmps=33:=by kernel_rfl
 go_enter Tryz.func136,hnt
 go_wp2_with fail
 go_region_law_o (refine step_append_room rfl _ _ 42 rfl 247 J 4 uS E hzs b g i c Yh A (n-(i+1)) (c-(i+1)) q (by simp[Act.eval,Act.put];try exact hA) s1.out Q.out s2.out Xd s3.out ?_;rw[<-hW.out])
 go_wp2
 go_ret
 exact⟨Z,hZl,rfl,rfl⟩
theorem tsq:DelFn Tryz.prog 136 4:=⟨Go.Proofs.enters_of Tryz.func136 Xp rfl,f5q⟩
theorem ouq{C:Cfg}:qVq Tryz.prog C 136 (dDq 247 4):=bSq tsq
set_option maxHeartbeats 4000000 in
theorem f4q(b g n c i:Nat)(R:List Value)(w:World)(hi:i<n)(hnc:n<=c)(h63:n<=70368744177664)
  (T:R.length=n*33) (G:∀j v,R[j]? =some v->w.cell? ⟨b,g+j,none⟩=some v) (H:∀j,j<n*33->w.frozen? ⟨b,g+j,none⟩=false) (M:∀v∈R,v.oneCell'=true):
  Calls Tryz.prog 237 #[.slice (some ⟨b,g,none⟩) n c,.int .i64 i,.int .i64 ((i+1:Nat):Int)] w λe w'=>
   ∃Z:List Value,Z.length=33/\e= .returned (.slice (some ⟨b,g,none⟩) (n-1) c)/\w'=(w.drew.setCells b (g+i*33) (R.drop ((i+1)*33))).setCells b (g+(n-1)*33) Z:=by
 have uS:Tryz.prog.underlying 234=some (.slice 240):=by kernel_rfl
 have sZ:(Tryz.prog.info? 240).map (·.size)=some 33:=by kernel_rfl
 have U:((Tryz.prog.info? 240).bind (·.zero)).map (λz=>(z.cells.size,(Builtin.zeroCells z.cells 1).toList.all λv=>v.oneCell'))=some (33,true):=by kernel_rfl
 have mixed:=mixed
 obtain⟨J,E⟩:∃J,Tryz.prog.info? 240=some J:=by
  cases X:Tryz.prog.info? 240 with
  |none=>simp[X] at sZ
  |some i=>exact⟨i,rfl⟩
 have hzs:J.size=33:=by simpa[E] using sZ
 obtain⟨z,hz0,P,V⟩:∃z,J.zero=some z/\z.cells.size=33/\(Builtin.zeroCells z.cells 1).toList.all (λv=>v.oneCell')=true:=by
  rw[E,Option.bind_some] at U;cases X:J.zero with
  |none=>simp[X] at U
  |some z=>
   rw[X,Option.map_some] at U;have:=ZA U;exact⟨z,rfl,Zc Prod.fst this,Zc Prod.snd this⟩
 have W:∀w,(zeroValue 240).run Tryz.prog w= .ok z w:=λw=>by simp[zeroValue,typeInfo,E,hz0]
 obtain⟨Z,Y⟩:∃Z,Z=(Builtin.zeroCells z.cells 1).toList:=⟨_,rfl⟩
 have hZl:Z.length=33:=by rw[Y];simp[Builtin.zeroCells,P]
 obtain⟨q,x⟩:∃q,q=R.drop ((i+1)*33):=⟨_,rfl⟩
 have B:q.length=(n-(i+1))*33:=by rw[x,Zy,T];omega
 obtain⟨A,hA,Q⟩:∃A:Addr,(if c=i+1 then some (⟨b,g,none⟩:Addr) else some ⟨b,g+(i+1)*33,none⟩)=some A/\Hid (∀t u,q[t]? =some u->w.drew.cell? (A.add t)=some u):=by
  by_cases h:c=i+1
  .refine⟨⟨b,g,none⟩,by simp[h],λt u F=>?_⟩;have h0:q.length=0:=by rw[B,show n-(i+1)=0 by omega,Nat.zero_mul]
   rw[ZZ.1 h0] at F;simp at F
  .refine⟨⟨b,g+(i+1)*33,none⟩,by simp[h],λt u F=>?_⟩;rw[x,Z0] at F;rw[Addr.add_lit,ZM];exact G _ u F
 have y:∀j,j<n*33->(w.drew.cell? ⟨b,g+j,none⟩).isSome=true:=λj I=>by
  show(w.cell? _).isSome=true;rw[G j _ (Za Xd)];rfl
 have s1:Hid (q.length=(n-(i+1))*33):=B;have s2:Hid (∀u∈q,u.oneCell'=true):=λu F=>M u (ZF (x▸F))
 have s3:Hid (∀t,t<q.length->(w.drew.cell? ⟨b,g+i*33+t,none⟩).isSome=true/\w.drew.frozen? ⟨b,g+i*33+t,none⟩=false):=by
  intro t ht;rw[B] at ht;rw[ZM];exact⟨y _ Xd,H _ Xd⟩
 obtain⟨W1,D⟩:∃W1,W1=w.drew.setCells b (g+i*33) q:=⟨_,rfl⟩
 have K:∀j,j<n*33->(W1.cell? ⟨b,g+j,none⟩).isSome=true:=λj I=>by
  rw[D];exact qjq b _ _ _ (λt ht=>(s3.out t ht).1) _ (y j I)
 have O:∀j,j<n*33->W1.frozen? ⟨b,g+j,none⟩=false:=λj I=>by
  rw[D,World.frozen?_setCells];exact H j I
 have hcl1:∀ty cc,(Builtin.clear_ #[234] ty #[.slice (some ⟨b,g+(n-1)*33,none⟩) 1 cc]).run Tryz.prog W1= .ok (.tuple #[]) (W1.setCells b (g+(n-1)*33) Z):=λty cc=>by
  rw[Y];exact v1q W1 234 240 ty z uS W (λv W=>List.all_eq_true.1 V v W) b _ cc (λj I=>by rw[ZM];exact K _ Xd) (λj I=>by rw[ZM];exact O _ Xd)
 have hW:Hid (W1=w.drew.setCells b (g+i*33) q):=D;rw[<-x,<-D];clear D K O y G H x B sZ U W V P Y M T;have q1:i+1<=n:=by omega
 have q2:i<=c:=by omega
 have q3:i+1<=c:=by omega
 have q4:i<=n:=by omega
 have q5:¬((i:Int)=(i:Int)+1):=by omega
 have q6:n-1<=n:=by omega
 have r1:(0:Int)<=(i:Int)+1:=by omega
 have r2:((i:Int)+1).toNat=i+1:=by omega
 have r3:(i:Int)+1<=(n:Int):=by omega
 have q7:i+(n-(i+1))=n-1:=by omega
 have q8:n-(n-1)=1:=by omega
 have q9:¬(c=n-1):=by omega
 have q10:n-1<=c:=by omega
 have hnt:Tryz.f237.ntmps=33:=by kernel_rfl
 go_enter Tryz.func237,hnt
 go_wp2_with fail
 go_region_law_o (refine step_append_room rfl _ _ 234 rfl 240 J 33 uS E hzs b g i c Yh A (n-(i+1)) (c-(i+1)) q (by simp[Act.eval,Act.put];try exact hA) s1.out Q.out s2.out Xd s3.out ?_;rw[<-hW.out])
 go_wp2
 go_ret
 exact⟨Z,hZl,rfl,rfl⟩
theorem trq:DelFn Tryz.prog 237 33:=⟨Go.Proofs.enters_of Tryz.func237 Xp rfl,f4q⟩
theorem otq{C:Cfg}:qVq Tryz.prog C 237 (dDq 240 33):=bSq trq
end
section
open Go.RowKit
set_option maxRecDepth 100000
section
variable {s0:World} {U:Nat} {D:Nat->Prop} {ρ:Env} {h:Heap} {w w':World}
theorem Rel.pushAt(r:Rel s0 U D ρ h w)(Q:h.next+1<=U){b:Blk}{o:Obj}{q pre cap:Nat}(S:w.heap.size<=q)(g:Below w.heap.size w w')(V:w'.heap[q]? =some o)(L:InB (DD D ρ) b)(O:KnB (ρ.add h.next q pre cap) h.next b o):
  Rel s0 U (λi=>D i\/i=h.next) (ρ.add h.next q pre cap) (h.push b) w'/\Nxt D ρ h w (λi=>D i\/i=h.next) (ρ.add h.next q pre cap) (h.push b) w':=by
 have M:=r.next_new Q;have G:Env.Agree (DD D ρ) ρ (ρ.add h.next q pre cap):=Env.add_agree M;have I:∀j m,DD D ρ j m->DD (λi=>D i\/i=h.next) (ρ.add h.next q pre cap) j m:=λj m p=>⟨.inl p.1,by rw[(G j m p).2.2.1];exact p.2⟩
 have E:∀j,D j->(ρ.add h.next q pre cap).b j=ρ.b j:=λj p=>(G j 0 ⟨p,Zf _⟩).1
 have z:(ρ.add h.next q pre cap).b h.next=q:=by simp[Env.add]
 have y:∀j c,(D j\/j=h.next) ->(h.push b).get j=some c->(j=h.next/\c=b)\/(D j/\h.get j=some c):=λj c p u=>by
  rw[Heap.get_push] at u;split at u
  .rename_i e;cases u;exact .inl ⟨e,rfl⟩
  .rename_i e;rcases p with p|p
   .exact .inr ⟨p,u⟩
   .exact absurd p e
 have B:∀j c,D j->h.get j=some c->ρ.b j<w.heap.size:=λj c p u=>by
  obtain⟨o,N,_⟩:=r.has j c p u;exact(Zs.1 N).1
 have J:s0.heap.size<=w.heap.size:=r.base.size;refine⟨⟨λj p=>?_,λj p=>?_,λj c p u=>?_,λj c p u=>?_,λj k c d p H u K A C F=>?_,λj c p u A=>?_,λj k c d p H u K A C=>?_,?_⟩,?_⟩
 .show j<h.next+1\/_;rcases p with p|p
  .have:=r.lt j p;omega
  .omega
 .have p:h.next+1<=j:=p;rw[Heap.get_push,Zg Xd];exact r.wf j Xd
 .rcases y j c p u with ⟨rfl,rfl⟩|⟨p,u⟩
  .exact⟨o,by rw[z];exact V,O⟩
  .obtain⟨o,N,T⟩:=r.has j c p u;exact⟨o,by rw[E j p,g.block _ (B j c p u)];exact N,KnB.agree G (m:=0) ⟨p,Zf _⟩ (r.clo j c p u) T⟩
 .rcases y j c p u with ⟨rfl,rfl⟩|⟨p,u⟩
  .exact L.mono I
  .exact(r.clo j c p u).mono I
 .rcases y j c p u with ⟨rfl,rfl⟩|⟨hj1,hc1⟩<;>rcases y k d H K with ⟨rfl,rfl⟩|⟨hk1,hd1⟩
  .exact absurd rfl F
  .rw[z,E k hk1];have:=B k d hk1 hd1;omega
  .rw[z,E j hj1];have:=B j c hj1 hc1;omega
  .rw[E j hj1,E k hk1];exact r.inj j k c d hj1 hk1 hc1 hd1 A C F
 .rcases y j c p u with ⟨rfl,rfl⟩|⟨p,u⟩
  .rw[z];omega
  .rw[E j p];exact r.own j c p u A
 .rcases y j c p u with ⟨rfl,rfl⟩|⟨hj1,hc1⟩<;>rcases y k d H K with ⟨rfl,rfl⟩|⟨hk1,hd1⟩
  .rw[A] at C;cases C
  .rw[z,E k hk1];have:=B k d hk1 hd1;omega
  .rw[z,E j hj1];have:=B j c hj1 hc1;omega
  .rw[E j hj1,E k hk1];exact r.old j k c d hj1 hk1 hc1 hd1 A C
 .exact⟨g.os.trans r.base.os,g.tape.trans r.base.tape,g.output.trans r.base.output,Zt J g.size,λk O=>(g.block k Xd).trans (r.base.block k O)⟩
 .refine⟨λ_ h=>.inl h,λj p=>?_,λj p=>?_,λc u _=>g.block c u,λj p R P=>?_,g.size,Zb _,YO _,g.os,g.tape,g.output⟩
  .rcases p with p|p
   .exact .inl p
   .exact .inr ⟨Nat.le_of_eq p.symm,by show j<h.next+1;omega⟩
  .have:j≠h.next:=by
    rcases p with p|p
    .omega
    .have p:h.next+1<=j:=p;omega
   simp[Env.add,this]
  .have P:j<h.next+1:=P;obtain rfl:j=h.next:=by omega
   exact .inl (by rw[z];exact S)
theorem fjq(r:Rel s0 U D ρ h w){v:V}{l:List UInt8}(g:InD (DD D ρ) v)(f:byJ h v=some l):Lib.HoldsBytes w (abq ρ v) l:=by
 unfold byJ at f;split at f
 .cases f;exact⟨none,0,rfl,λ_=>rfl,λa h=>by cases h⟩
 .rename_i b o j n q;split at f
  .rename_i p y;split at f
   .rename_i L k;obtain⟨A,u⟩:=Ysq ρ f;obtain⟨B,_,_,_⟩:=y3q (ρ:=ρ) 50 p j n 1 L k;have d:=jVq r g y k;rw[u] at d;obtain rfl:n=l.length:=by omega
    exact⟨_,_,rfl,λh=>Qi,λa z i x t=>by cases z;exact d i _ (by simp[t])⟩
   .cases f
  .cases f
 .cases f
theorem chq(r:Rel s0 U D ρ h w):∀{g:List V} {j:List (List UInt8)},InDL (DD D ρ) g->wjq h g=some j->g.length=j.length/\(∀(i:Nat) v l,(zPq ρ g)[i]? =some v->j[i]? =some l->Lib.HoldsBytes w v l)/\∀x∈g,x.size=1/\x.leaf=true
 |[],j,_,hk=>by cases hk;exact⟨rfl,λi v l h=>by simp[zPq] at h,λx b=>by cases b⟩
 | v ::g,j,hin,hk=>by
  unfold wjq at hk;split at hk
  .rename_i x E b z;cases hk;obtain⟨A,B,C⟩:=chq r hin.2 z;refine⟨Zc (· +1) A,λi u l k p=>?_,λy q=>?_⟩
   .cases i with
    |zero=>
     simp only[zPq,List.getElem?_cons_zero,Zm] at k p;subst k;subst p
     exact fjq r hin.1 b
    |succ i=>
     simp only[zPq,List.getElem?_cons_succ] at k p;exact B i u l k p
   .rcases ZB.1 q with rfl|q
    .unfold byJ at b;split at b
     .exact⟨rfl,rfl⟩
     .exact⟨rfl,rfl⟩
     .cases b
    .exact C y q
  .cases hk
theorem pOq{D:Nat->Nat->Prop}:∀{l:List V},(∀x∈l,InD D x) ->InDL D l
 |[],_=>trivial
 |x::l,h=>⟨h x (ZV ..),pOq λy a=>h y (ZS _ a)⟩
theorem J7q(ρ:Env):∀{xs:List V},(∀x∈xs,x.size=1/\x.leaf=true) ->zpq ρ 1 xs=zPq ρ xs
 |[],_=>rfl
 |x::xs,h=>by
  have a:=(h x Xi).2;simp only[zpq,zPq,kRq a,J7q ρ (xs:=xs) λy b=>h y (by simp[b])];rw[y2q (by rfl)];rfl
theorem iCq:∀a:List (List UInt8),Lib.join a []=a.flatten
 |[]=>rfl
 |x::r=>by
  rw[Lib.join_cons];unfold Lib.joinTail;simp
end
theorem pMq{C:Cfg}:qVq Tryz.prog C 280 KYq:=λvs h v h' z=>by
 unfold KYq at z;split at z
 .rename_i b Z j n K y;split at z
  .rename_i bv hv hy;split at z
   .rename_i I hxs;split at z
    .rename_i Y hls;split at z
     .rename_i hb;cases z;simp only[Zd] at hb;obtain⟨⟨⟨O,R⟩,Q⟩,J⟩:=hb;have O:=Yb O;have R:=Yb R;have Q:=Yb Q;have J:=Yb J;refine⟨yAq _ _,(ofq 280 _ (by rfl)).2.1,λs0 U D d w hU gl hin x=>?_⟩;have hU:h.next+1<=U:=hU;have hx:=hin.1;have hyi:=hin.2.1;obtain⟨g1,g2,g3,g4⟩:=y3q (ρ:=d) 50 bv j n 1 I hxs;obtain⟨_,_,_,_,_,_,_,V⟩:=x.val hx.2.2.1 hv;have hxin:InDL (DD D d) I:=g4 _ V;obtain⟨k1,k2,k3⟩:=chq x (pOq (K5q hxin)) hls;have f:=jVq x hx hv hxs;rw[show zpq d 1 I=zPq d (yaq 1 I) by rw[<-J7q d k3,kPq d 1 I,Z9q d _ (Zmq 1 I)]] at f;have hge:=jWq hx;have W:¬ydq d b j 1 K=0:=by omega
      rw[Zg W] at f;have hP:Lib.PartsAt w ⟨d.b b,d.pre b+j,none⟩ (zPq d (yaq 1 I)) Y:=⟨by rw[qyq,k1],f,k2⟩;have hS:=fjq x hyi hy;have hfl:(yaq 1 I).length=I.length:=by rw[uCq,Z6]
      have E:Lib.lens Y=Y.flatten.length:=by simp[Lib.lens,List.length_flatten]
      have cj:=nXq (d.b b) (d.pre b+j) n (ydq d b j 1 K) (zPq d (yaq 1 I)) Y (abq d y) [] w Xd O hP hge hS R (by rw[E,ZP,Nat.zero_mul,Y5];exact J)
      have S:(zPq d [.sl b Z j n 1 K,y]).toArray= #[.slice (some ⟨d.b b,d.pre b+j,none⟩) n (ydq d b j 1 K),abq d y]:=by
       simp[zPq,abq,ysq,W]
      rw[S];refine cj.mono ?_;rintro e w' ⟨v',rfl,hfresh,hbel⟩;rw[iCq] at hfresh;clear E cj;generalize Y.flatten=F at hfresh Q J⊢;obtain⟨g,H,zs,rfl,hg,X,hmax,hzl,hzr,hzb,G,hfrz⟩:=hfresh
      have k:∃P ty fz,w'.heap[g]? =some (.cells P ty fz):=by
       have:=G 0 Xd;simp only[World.cell?] at this;split at this
       .rename_i P ty fz hh;exact⟨_,_,_,hh⟩
       .cases this
      obtain⟨P,ty,fz,k⟩:=k
      have hcs:∀i,i<H->P[i]? =some (.int .u8 (zs.getD i 0)):=λi L=>by
       have:=G i L;simpa[World.cell?,k] using this
      have T:∀i (L:i<F.length),zs.getD i 0=(F[i].toNat:Int):=λi L=>by
       have hz:i<zs.length:=by omega
       have h1:=Zc (·[i]?) hzb;simp only[Go.Lib.bytesOf,Z1,YJ,L,if_true,Za hz,Option.map_some,Za L,Zm] at h1;obtain⟨q1,q2⟩:=hzr zs[i] (List.getElem_mem hz);rw[<-h1];simp[List.getD,Za hz];omega
      have B:P.toList=cellsV d (.arr F.length 1 (qpq F))++P.toList.drop F.length:=by
       have e:cellsV d (.arr F.length 1 (qpq F))=F.map λb=>Value.int .u8 b.toNat:=by
        simp only[cellsV];rw[y2q (by rw[zEq];simp[qpq]),kSq]
       rw[e];apply List.ext_getElem?;intro i;by_cases L:i<F.length
       .rw[List.getElem?_append_left (by simpa using L)];have:=hcs i Xd;rw[T i L] at this;simpa[Za L] using this
       .rw[List.getElem?_append_right Xn,Z0];congr 1
        simp;omega
      have M:InD (DD D d) (.arr F.length 1 (qpq F)):=InDL_iff.2 λy hy=>by obtain⟨c,_,rfl⟩:=Z2.1 hy;trivial
      have hag:Env.Agree (DD D d) d (d.add h.next g 0 H):=Env.add_agree (x.next_new hU)
      obtain⟨r',n'⟩:=x.pushAt hU (q:=g) (pre:=0) (cap:=H) (b:=.ro (.arr F.length 1 (qpq F))) hg hbel k M ⟨[],P.toList.drop F.length,ty,fz,by
       rw[yZq hag M,YX,<-B],by simp[Env.add],by simp[Env.add];exact X⟩
      refine⟨_,_,?_,r',n',by omega,Zb _,.inr rfl,?_⟩
      .have:¬H=0:=by omega
       simp[abq,ysq,ydq,Env.add,this]
      .simp[Env.add];exact X
     .cases z
    .cases z
   .cases z
  .cases z
 .cases z
theorem eIq(d:List V->Heap->Option (V×Heap))(g:qVq Tryz.prog (gmq d) 4 d):jQq Tryz.prog (gmq d):=λf k b=>by
 have b:(match Nat.beq f 280 with|true=>some KYq|false=>match Nat.beq f 237 with|true=>some (dDq 240 33)|false=>match Nat.beq f 136 with|true=>some (dDq 247 4)|false=>match Nat.beq f 238 with|true=>some (aGq tGq 234 240 33 56)|false=>match Nat.beq f 234 with|true=>some (aGq tGq 46 92 99 120)|false=>match Nat.beq f 4 with|true=>some d|false=>none)=some k:=b;split at b
 .rename_i e;cases b;have:=Zi e;subst this;exact pMq
 .split at b
  .rename_i e;cases b;have:=Zi e;subst this;exact otq
  .split at b
   .rename_i e;cases b;have:=Zi e;subst this;exact ouq
   .split at b
    .rename_i e;cases b;have:=Zi e;subst this;exact n0q
    .split at b
     .rename_i e;cases b;have:=Zi e;subst this;exact n1q
     .split at b
      .rename_i e;cases b;have:=Zi e;subst this;exact g
      .cases b
section
section
variable {C:Cfg} {G:Nat->Option W} {o:Oper} {fr fr2:FrW} {hp:HpW} {nw:Nat} {R:Res} {post:W->HpW->Nat->Res->Option EvW->Prop}
theorem g4q(Z:rOq (amq hp) fr fr2)(h:aeq C G o fr2 [] nw R λw j E R' ev=>ev=some .gen/\post w j E R' ev):aeq C G o fr hp nw R post:=λf X I J s T=>by
 let Γ2:Ctx:=⟨f.nw,f.σ,λc=>f.D c\/aoq f hp c,f.h⟩
 have H:f.Le Γ2:=⟨Zb _,λ_ _=>rfl,λ_ h=>.inl h,λ_ _=>rfl⟩
 have q:Seen (amq hp) f Γ2:=⟨λ_ h _=>h,λ_ _ _=>rfl,λ_ h=>.inl h,λ_ _=>rfl,λb c _ h=>by
  unfold amq at h;split at h
  .rename_i ty c' N;cases h;obtain⟨v,O,K,F⟩:=jeq s N;exact⟨.inr ⟨b,_,N,rfl⟩,v,K,F⟩
  .cases h⟩
 have s2:SatH C G Γ2 [] X R:=⟨s.wf,λk ty' w L=>by simp[hget] at L,λk k' x y hx=>by simp[hget] at hx,YN,λd p M=>by
  rcases p with h|⟨b,x,h,rfl⟩
  .exact s.dX d h M
  .exact(s.own b x.1 x.2 h).2.2.1 M,s.xlt,λd p=>by
  rcases p with h|⟨b,x,h,rfl⟩
  .exact s.dlt d h
  .exact s.own_lt h,R.st _ _ _ _ _ s.res H.D H.val (λ_ _=>rfl) (Zb _),s.gl.mono H⟩
 have a:Frm f.nw f hp X Γ2 [] X:=⟨λ_ _=>rfl,λh=>h,Zb _,λ_ _ _ _=>rfl,λ_ h=>.inl h,λd p=>by
  rcases p with h|h
  .exact .inl h
  .exact .inr (.inl (.inl h)),λk x L h=>by simp[hget] at h,λk x L h=>by simp[hget] at h,λ_ h=>.inl h,λ_ h _ _=>h⟩
 obtain⟨n,w,j,R',ev,v,U,Γ',X',⟨rfl,O⟩,K,⟨F,A⟩,Q,z,V,S,h8⟩:=h Γ2 X I J s2 λt w Y=>by
  obtain⟨w0,P,g2⟩:=vYq Z t w Y;obtain⟨u,g3,g4⟩:=T _ _ P;exact⟨u,g3,kDq q g2 g4⟩
 exact⟨n,w,j,R',_,v,U,Γ',X',O,K,⟨F,A⟩,Q,⟨z.nw,z.σ,λc B=>z.D c (.inl B),λc B=>z.val c (.inl B)⟩,V,a.trans S,h8⟩
end
attribute [local irreducible] CoW OpW FlW aeq ajq
variable {G:Nat->Option W}
theorem xYq(h:Hdr):PS cfg G 176 [hdW h] (.int .i64 (if okH h then 0 else 8)):=by
 refine gI 11 Y (λR k=>?_);refine gD 0 Y (λj=>?_) (λj=>?_)
 .exact gQ 25 Y Xy
 .refine gD 3 Y (λb=>?_) (λb=>?_)
  .exact gQ 21 Y Xy
  .refine gD 4 Y (λd=>?_) (λd=>?_)
   .exact gQ 16 Y Xy
   .refine gU 4 Y ?_;refine gS 3 Y (λg=>?_) (λg=>?_)
    .exact gQ 7 Y Xy
    .exact gQ 8 Y Xy
theorem bZq(n b:Nat)(j:1<=b)(d:b<=8)(m:n<256^b)(k:n<9223372036854775808):PS cfg G 266 [.int .i64 (n:Int),.int .i64 (b:Int)] (bW (beB b n)):=by
 refine gIv 8 Y (λR o=>gA 0 Y (n) (zbq 1 Y ?_))
 (refine zhq rfl (yMq Y Y Y Y Y Y (m7q n b j d m) ?_);rintro w g f ⟨rfl,rfl,rfl⟩)
 refine zeq 14 Y ?_;have e:aaq (.arr (b*1) 1 (zcq (beB b n)))=true:=jlq _;exact y0q Jr rfl (.sl (full:=false) (c:=.arr (b*1) 1 (zcq (beB b n))) (xs:=zcq (beB b n)) (by show some (adq _ (W.arr (b*1) 1 (zcq (beB b n))))=_;rw[zdq e]) e (zqq Xg (by rw[ztq,x8q]) rfl) Xj)
theorem s2q(a:List (List UInt8))(f:Bool)(c:2<=a.length)(e:a.length<=140737488355328)(d:1<=a.flatten.length)(b:a.flatten.length<=140737488355328):PS cfg G 265 [.fz (a.map bW) 1 f] (bW a.flatten):=by
 exact gI 8 Y (λR g=>gC 0 Y (AUq rfl a f c e d b) (gQa 4 Y))
def hdB(h:Hdr):List UInt8:=[beB 8 h.height.toNat,h.parent.1,h.state.1,h.rows.1,beB 4 h.many.toNat].flatten
theorem iOq(h:Hdr):(hdB h).length=108:=by simp[hdB,x8q,h.parent.2,h.state.2,h.rows.2]
theorem cMq(d:Dig)(i:Nat):(((zcq d.1).drop (0/1)).take 32)=zcq d.1:=by
 have h:(zcq d.1).length=32:=by rw[ztq,d.2]
 rw[show 0/1=0 from rfl,ZX,Zp (by rw[h];omega)]
theorem iMq(h:Hdr):ymq 50 (hdW h) 1 32 1=some (zcq h.parent.1)/\ymq 50 (hdW h) 33 32 1=some (zcq h.state.1)/\ymq 50 (hdW h) 65 32 1=some (zcq h.rows.1):=
 ⟨Zc some (cMq h.parent 0),Zc some (cMq h.state 0),Zc some (cMq h.rows 0)⟩
theorem iPq(h:Hdr)(a:¬okH h):PS cfg G 242 [hdW h] (.tup [.nils,.int .i64 8]):=by
 exact gI 11 Y (λR b=>gC 0 Y (zrq (w':=.int .i64 8) (xYq h) (by rw[Zg a])) (gQa 19 Y))
theorem n6q(h:Hdr)(w:okH h):PS cfg G 242 [hdW h] (.tup [bW (hdB h),.int .i64 0]):=by
 obtain⟨x,y,A,j⟩:=w;obtain⟨a,B⟩:∃a:Nat,h.height=a:=⟨h.height.toNat,by omega⟩
 obtain⟨m,k⟩:∃m:Nat,h.many=m:=⟨h.many.toNat,by omega⟩
 have v:h.height.toNat=a:=by omega
 have q:h.many.toNat=m:=by omega
 have C:=iOq h;have d:=bZq (G:=G) a 8 Xd Xd (by show a<18446744073709551616;omega) Xd;have b:=bZq (G:=G) m 4 Xd Xd (by show m<4294967296;omega) Xd;rw[<-B] at d;rw[<-k] at b;rw[<-v] at d;rw[<-q] at b;have g:=s2q (G:=G) [beB 8 h.height.toNat,h.parent.1,h.state.1,h.rows.1,beB 4 h.many.toNat] false Xi Xi Qm Qm;rw[show [beB 8 h.height.toNat,h.parent.1,h.state.1,h.rows.1,beB 4 h.many.toNat].flatten=hdB h from rfl] at g;refine gI 11 Y (λR D=>gC 0 Y (zrq (w':=.int .i64 0) (xYq h) (by rw[Zl ⟨x,y,A,j⟩])) (gC 16 Y d (gC 8 Y b ?_)));refine gSf 1 Y (g4q (fr2:=[(22,.fz ([beB 8 h.height.toNat,h.parent.1,h.state.1,h.rows.1,beB 4 h.many.toNat].map bW) 1 false)]) ⟨⟨_,rfl,(.sl2 (full:=false) rfl (.arr (.cons (.pur Xi) (.cons (.sl (full:=false) (c:=hdW h) (xs:=zcq h.parent.1) rfl Xi (iMq h).1 Xj) (.cons (.sl (full:=false) (c:=hdW h) (xs:=zcq h.state.1) rfl Xi (iMq h).2.1 Xj) (.cons (.sl (full:=false) (c:=hdW h) (xs:=zcq h.rows.1) rfl Xi (iMq h).2.2 Xj) (.cons (.pur Xi) .nil)))))) rfl Xj)⟩,trivial⟩ (Ksq Y Y Y Y Y g Xi Xi ⟨rfl,by first|rfl|kernel_rfl,?_⟩));exact gQa 5 Y
def iQq(h:Hdr):Dig:=cLq 6 [hdB h]
theorem n4q(h:Hdr)(a:¬okH h):PS cfg G 208 [hdW h] (.tup [dW zeroD,.int .i64 8]):=by
 exact gI 10 Y (λR b=>gC 0 Y (iPq h a) (gV 17 Y vKq (gQa 7 Y)))
theorem dlq(h:Hdr)(a:okH h):PS cfg glK 208 [hdW h] (.tup [dW (iQq h),.int .i64 0]):=by
 have b:=iOq h;refine gI 10 Y (λR d=>gC 0 Y (n6q h a) (zbq 21 Y ?_));refine vcq Y Y Y Y Y (by(repeat (first|exact .nil|refine .cons ?_ ?_|(refine .sl Y ?_ rfl Xj;first|rfl|(focus (simp;done)))|(refine y5q Y ?_ rfl;first|rfl|(focus (simp;done)))|(refine .pur ?_;first|rfl|(focus (simp;done)))))) (voq 6 [hdB h] false Xi (by simp[b])) Xm Xm ?_;exact zeq 5 Y (gQa 0 Y)
end
section
attribute [local irreducible] CoW OpW FlW aeq ajq
variable {G:Nat->Option W}
def wbq(r:Rec):W:=.agg 34 [.int .u8 (.ofNat r.kind.toNat),dW r.id,.int .i64 (r.code:Int)]
@[simp] theorem m2q(r:Rec):aaq (wbq r)=true:=by simp[wbq]
def okR(r:Rec):Prop:=(r.kind=1\/r.kind=2)/\(r.code=0\/r.code=151\/(r.kind=2/\r.code=150))
def recB(r:Rec):List UInt8:=([r.kind]++r.id.1)++beB 2 r.code
end
section
attribute [local irreducible] CoW OpW FlW aeq ajq
def baq:T->Dig
 |.nil=>cLq 0 []
 |.leaf k v=>cLq 1 [k.1,v]
 |.fork l r=>cLq 2 [(baq l).1,(baq r).1]
def vlq(t:T):Prop:=∀p∈t.all,p.2.length<1000000
theorem ewq:∀{t:T} {d:Nat} {b:Dig},t.ok d b=true->(t.isFork=true->2<=t.all.length)/\(t.non=true->1<=t.all.length)
 |.nil,_,_,_=>⟨λh=>Qi,λh=>Qi⟩
 |.leaf k v,_,_,_=>⟨λh=>Qi,λ_=>by simp[T.all]⟩
 |.fork l r,d,b,h=>by
  obtain⟨_,u,x,j⟩:=ok_fork.1 h;obtain⟨p,y⟩:=ewq u;obtain⟨q,A⟩:=ewq x
  have z:2<=l.all.length+r.all.length:=by
   unfold T.two at j;rcases Bool.or_eq_true_iff.1 j with j|j
   .rcases Bool.or_eq_true_iff.1 j with j|j
    .have:=p j;omega
    .have:=q j;omega
   .obtain⟨m,w⟩:=Bool.and_eq_true_iff.1 j;have:=y m;have:=A w;omega
  have e:(T.fork l r).all.length=l.all.length+r.all.length:=by simp[T.all]
  exact⟨λ_=>by omega,λ_=>by omega⟩
theorem cAq{l r:T}{d k:Nat}{b p:Dig}(m:l.ok d b=true)(u:r.ok k p=true)(f:T.two l r=true):2<=l.all.length+r.all.length:=by
 obtain⟨j,w⟩:=ewq m;obtain⟨y,x⟩:=ewq u;unfold T.two at f;rcases Bool.or_eq_true_iff.1 f with f|f
 .rcases Bool.or_eq_true_iff.1 f with f|f
  .have:=j f;omega
  .have:=y f;omega
 .obtain⟨g,q⟩:=Bool.and_eq_true_iff.1 f;have:=w g;have:=x q;omega
theorem nBq(x:Node):ymq 50 (nW x) 1 32 1=some (zcq x.key.1):=by
 have h:(zcq x.key.1).length=32:=by rw[ztq,x.key.2]
 show some (((zcq x.key.1).drop (0/1)).take 32)=_;rw[show 0/1=0 from rfl,ZX,Zp (by rw[h];omega)]
theorem gQq:PS cfg glK 45 [] (dW (cLq 0 [])):=by
 exact gI 7 Y (λR a=>vcq Y Y Y Y Y (vR (.cons .nilfz .nil)) (voq 0 [] false Xi Xi) Xm Xm (zeq 4 Y (gQa 0 Y)))
theorem gIq(y:Tree)(K:y.nodes.length<=4611686018427387903):∀(t:T) (n:Nat),Rep y.nodes n t->vlq t->PS cfg glK 95 [tW y,.int .i64 (n:Int)] (dW (baq t)):=by
 intro t;induction t with
 |nil=>
  intro n b g;obtain rfl:n=0:=by cases b;rfl
  refine gI 13 Y (λR C=>?_);refine gS 0 Y (λm=>?_) (λm=>?_)
  .exact gC 2 Y (gQq) (gQa 5 Y)
  .exfalso;omega
 |leaf k v=>
  intro n b g;have A:=b.le;have J:v.length<1000000:=g (k,v) (by simp[T.all]);cases b with
  |leaf h=>
  rename_i n l r;refine gI 13 Y (λR C=>?_);refine gS 0 Y (λm=>?_) (λm=>?_)
  .exfalso;omega
  .refine gA 7 Y (n) (gP 0 Y (zyq (i:=n) Y Y Y Y Y Y Y (ziq nW h)) (zbq 20 Y ?_));first|refine Znq Y Y Y Y Y (vR (.cons (.sl2 (full:=false) rfl (.arr (.cons (.sl (full:=false) (c:=nW ⟨true,k,v,l,r⟩) (xs:=zcq k.1) rfl Xi (nBq _) Xj) (.cons (.pur Xi) .nil))) rfl Xj) .nil)) (voq 1 [k.1,v] false Xi (by simp[k.2,J])) Xm Xm Xq ?_|refine Znq Y Y Y Y Y (vR (.cons .nilfz .nil)) (voq 0 [] false Xi Xi) Xm Xm Xq ?_
   exact zWq 5 Y (gQa 0 Y)
 |fork j d w q=>
  intro n b g;have A:=b.le;cases b with
  |fork h I G F D=>
  rename_i n l r k v;have E:vlq j:=λp B=>g p (by simp[T.all,B])
  have H:vlq d:=λp B=>g p (by simp[T.all,B])
  refine gI 13 Y (λR C=>?_);refine gS 0 Y (λm=>?_) (λm=>?_)
  .exfalso;omega
  .exact gA 7 Y (n) (gP 0 Y (zyq (i:=n) Y Y Y Y Y Y Y (ziq nW h)) (gC 20 Y (w l F E) (gC 3 Y (q r D H) (zbq 11 Y (Znq Y Y Y Y Y (vR (.cons (.sl2 (full:=false) rfl (.arr (.cons (.sl (full:=false) (xs:=zcq (baq j).1) rfl Xi (zqq Xg (by simp[ztq,(baq j).2]) rfl) Xj) (.cons (.sl (full:=false) (xs:=zcq (baq d).1) rfl Xi (zqq Xg (by simp[ztq,(baq d).2]) rfl) Xj) .nil))) rfl Xj) .nil)) (voq 2 [(baq j).1,(baq d).1] false Xi (by simp[(baq j).2,(baq d).2])) Xm Xm Xq (zWq 4 Y (gQa 0 Y)))))))
theorem rIq(t:Tree)(n:Nat)(a:T)(h:IsT t n a):PS cfg glK 44 [tW t] (.tup [dW (baq a),.int .i64 0]):=by
 have c:vlq a:=λp d=>by have:=(h.val p d).2;omega
 have b:=h.len;refine gI 11 Y (λR e=>?_);refine gC 0 Y (zrq (kmq t Xd) (by rw[Zl h.may])) ?_;refine zbq 17 Y ?_;refine yOq Y Y Y Y Y (by rw[h.root];rfl) (gIq t Xd a n h.rep c) ?_;refine zeq 5 Y ?_;exact gQa 0 Y
end
section
attribute [local irreducible] CoW OpW FlW aeq ajq
variable {G:Nat->Option W}
def pUq(n:Nat):Nat:=2^(lenM (n-1) -1)
def r7q:Nat->List (List UInt8) ->Dig
 |0,_=>cLq 0 []
 |n+1,ps=>match ps with
  |[]=>cLq 0 []
  |[p]=>cLq 7 [p]
  |p::q::r=>cLq 8 [(r7q n ((p::q::r).take (pUq (p::q::r).length))).1,(r7q n ((p::q::r).drop (pUq (p::q::r).length))).1]
def CNq(a:List (List UInt8)):Dig:=r7q 256 a
end
section
theorem ehq(L:List Rec):acq (L.map wbq)=true:=yvq (λr=>m2q r) L
attribute [local irreducible] CoW OpW FlW aeq ajq
variable {G:Nat->Option W}
end
def Cuq(c:List Depo)(b:List Tx)(f g:Bool):W:=.agg 2 [.fz (c.map pdW) 34 f,.fz (b.map txW) 99 g]
@[simp] theorem oNq(b:List Depo)(a:List Tx)(f g:Bool):aaq (Cuq b a f g)=true:=by
 have c:aaq (.fz (b.map pdW) 34 f)=true:=yvq c6q b;have d:aaq (.fz (a.map txW) 99 g)=true:=yvq qYq a;show(aaq (.fz (b.map pdW) 34 f)&&(aaq (.fz (a.map txW) 99 g)&&true))=true;rw[c,d];rfl
@[simp] theorem C0q(l:List Depo):acq (l.map pdW)=true:=yvq c6q l
@[simp] theorem jnq(l:List Tx):acq (l.map txW)=true:=yvq qYq l
structure RcI where
 kind:UInt8
 id:Dig
 code:Int
def rcW(r:RcI):W:=.agg 34 [.int .u8 (.ofNat r.kind.toNat),dW r.id,.int .i64 r.code]
@[simp] theorem cZq(r:RcI):aaq (rcW r)=true:=by simp[rcW]
@[simp] theorem CRq(l:List RcI):acq (l.map rcW)=true:=yvq cZq l
structure Lk where
 hdr:Hdr
 root:Int
 ds:List Depo
 xs:List Tx
 rs:List RcI
def lkG(l:Lk):W:=.agg 102 [hdW l.hdr,.int .i64 l.root,Cuq l.ds l.xs false false,.fz (l.rs.map rcW) 34 false]
@[simp] theorem itq(l:Lk):aaq (lkG l)=true:=by
 have h:aaq (.fz (l.rs.map rcW) 34 false)=true:=yvq cZq l.rs;show(aaq (hdW l.hdr)&&(true&&(aaq (Cuq l.ds l.xs false false)&&(aaq (.fz (l.rs.map rcW) 34 false)&&true))))=true;rw[h,iNq,oNq];rfl
@[simp] theorem ZZq(l:List Lk):acq (l.map lkG)=true:=yvq itq l
structure Ch where
 tree:Tree
 links:List Lk
def chG(c:Ch):W:=.agg 3 [tW c.tree,.fz (c.links.map lkG) 102 false]
@[simp] theorem tFq(c:Ch):aaq (chG c)=true:=by
 show(aaq (tW c.tree)&&(aaq (.fz (c.links.map lkG) 102 false)&&true))=true;rw[gWq,show aaq (.fz (c.links.map lkG) 102 false)=true from ZZq _];rfl
structure Vw where
 number:Int
 down:Bool
 final:Int
 ch:Ch
def vwG(v:Vw):W:=.agg 6 [.int .i64 v.number,.bool v.down,.int .i64 v.final,chG v.ch]
@[simp] theorem kbq(v:Vw):aaq (vwG v)=true:=by
 show(true&&(true&&(true&&(aaq (chG v.ch)&&true))))=true;rw[tFq];rfl
def t8q(b:List Depo)(a:List Tx):Prop:=b.length<=16/\a.length<=16/\∀x∈a,x.sign=xHq x
section
attribute [local irreducible] CoW OpW FlW aeq ajq
def hdZ:Hdr:=⟨0,zeroD,zeroD,zeroD,0⟩
end
section
def wkF(t:Tree)(b:Dig)(L:List Rec):W:=.agg 35 [tW t,dW b,.fz (L.map wbq) 34 false]
@[simp] theorem Cyq(t:Tree)(a:Dig)(L:List Rec):aaq (wkF t a L)=true:=by
 show(aaq (tW t)&&(aaq (dW a)&&(aaq (.fz (L.map wbq) 34 false)&&true)))=true;rw[gWq,qeq,show aaq (.fz (L.map wbq) 34 false)=true from ehq L];rfl
attribute [local irreducible] CoW OpW FlW aeq ajq
attribute [local simp] ehq
def Diq(p:Hdr)(a:T)(L:List Rec):Hdr:=⟨p.height+1,iQq p,baq a,CNq (L.map recB),L.length⟩
end
end
section
open Go.RowKit Go.ChangeShapes Go.WideShapes
mutual
/-- cells of the memory at the start that hold what a value says -/
def HC(W0:World):W->List Value->Prop
 |.bool b,cs=>cs=[.bool b]
 |.int k n,cs=>cs=[.int k n]
 |.agg n l,cs=>cs.length=n/\HCL W0 l cs
 |.arr n e l,cs=>cs.length=n/\(∀x∈l,x.size=e)/\l.length*e=n/\HCL W0 l cs
 |.str x,cs=>cs=[.string ⟨⟨x⟩⟩]
 |.fz l e f,cs=>f=false/\((l=[]/\cs=[.slice none 0 0])\/(l=[]/\0<e/\∃(a:Addr) (v:Nat) (p:Array Value) (q:TypeId) (u:Nat×Nat),cs=[.slice (some a) 0 0]/\W0.heap[v]? =some (.cells p q u))\/∃(a:Addr) (m:Nat),cs=[.slice (some a) l.length m]/\l.length<=m/\a.spot=none/\0<e/\(∀x∈l,x.size=e)/\
   ∃(j h d:List Value) (q:TypeId) (u:Nat×Nat),W0.heap[a.block]? =some (.cells (j++(h++d)).toArray q u)/\j.length=a.off/\HCL W0 l h)
 |_,_=>False
def HCL(W0:World):List W->List Value->Prop
 |[],cs=>cs=[]
 |x::l,cs=>∃a b,cs=a++b/\HC W0 x a/\HCL W0 l b
end
theorem HC.len{W0:World}{w:W}{b:List Value}(h:HC W0 w b):b.length=w.size:=by
 cases w<;>simp only[HC] at h<;>first
  |(subst h;rfl)
  |exact h.1
  |exact h.elim
  |(rcases h with ⟨_,⟨_,rfl⟩|⟨_,_,_,_,_,_,_,rfl,_⟩|⟨a,c,rfl,_⟩⟩<;>rfl)
structure Start(W0:World)(h:Heap)(ρ:Env):Prop where
 wf:∀i,h.next<=i->h.get i=none
 ro:∀i b,h.get i=some b->∃v o,b= .ro v/\W0.heap[ρ.b i]? =some o/\KnB ρ i b o/\InB (DD (λi=>i<h.next) ρ) b
theorem Start.rel{W0:World}{h:Heap}{f:Env}(s:Start W0 h f){U:Nat}(r:h.next<=U):Rel W0 U (λi=>i<h.next) f h W0:=by
 refine⟨λi q=>.inl q,s.wf,λi b _ d=>?_,λi b _ d=>?_,λi j b c _ _ d _ e=>?_,λi b _ d e=>?_,λi j b c _ _ _ p _ e=>?_,Below.refl _ _⟩
 .obtain⟨v,o,rfl,g,k,m⟩:=s.ro i b d;exact⟨o,g,k⟩
 .obtain⟨v,o,rfl,g,k,m⟩:=s.ro i b d;exact m
 .obtain⟨v,o,rfl,_⟩:=s.ro i b d;cases e
 .obtain⟨v,o,rfl,_⟩:=s.ro i b d;cases e
 .obtain⟨v,o,rfl,_⟩:=s.ro j c p;cases e
theorem law1{P:Program}{C:Cfg}{G:Nat->Option W}(q:P.follows .mixedOrders=true)(E:CfgOK P C)(Q:Ycq P C)(J:jQq P C){f:FuncId}{B:List W}(I:PS C G f B (.bool true)){W0:World}{h:Heap}{c:Env}{j:List V}(s:Start W0 h c)
  (M:GlobOK C (DD (λi=>i<h.next) c) c) (H:GRel C G ⟨0,λi=>i,λi=>i<h.next,h⟩) (p:InDL (DD (λi=>i<h.next) c) j) (N:RVL ⟨0,λi=>i,λi=>i<h.next,h⟩ B j):
  Calls P f (zPq c j).toArray W0 λe z=>e= .returned (.bool true)/\Below W0.heap.size W0 z:=by
 obtain⟨n,v,Γ',X',w,F,R',D,U,R,L,S,rfl⟩:=I Res.none ⟨0,λi=>i,λi=>i<h.next,h⟩ (λ_=>False) j rfl
  ⟨s.wf,λb T w g=>by simp[hget] at g,λb X x y g=>by simp[hget] at g,YN,λ_ _ h=>h,λ_ h=>h.elim,λ_ h=>h,trivial,H⟩ N
 refine(hwq q E Q J D M p (s.rel R.next)).mono λe z=>?_
 rintro⟨D',K,rfl,g,_⟩
 have k:v= .bool true:=by
  have:=L.one rfl;simpa[RS] using this
 subst k;exact⟨rfl,g⟩
end
section
open Go.RowKit
structure Later(h:Heap)(ρ:Env)(h':Heap)(ρ':Env):Prop where
 next:h.next<=h'.next
 get:∀i,i<h.next->h'.get i=h.get i
 env:∀i,i<h.next->ρ'.b i=ρ.b i/\ρ'.pre i=ρ.pre i/\ρ'.cap i=ρ.cap i/\ρ'.l i=ρ.l i
theorem Later.refl(h:Heap)(a:Env):Later h a h a:=⟨Zb _,λ_ _=>rfl,λ_ _=>⟨rfl,rfl,rfl,rfl⟩⟩
theorem Later.trans{g h j:Heap}{c e f:Env}(a:Later g c h e)(b:Later h e j f):Later g c j f:=
 ⟨Zt a.next b.next,λi d=>(b.get i (Zv d a.next)).trans (a.get i d),λi d=>by
  obtain⟨v,o,k,m⟩:=a.env i d;obtain⟨l,q,u,p⟩:=b.env i (Zv d a.next);exact⟨l.trans v,q.trans o,u.trans k,p.trans m⟩⟩
def ctx0(h:Heap):Ctx:=⟨0,λi=>i,λi=>i<h.next,h⟩
theorem Later.le{h d:Heap}{g f:Env}(a:Later h g d f):(ctx0 h).Le (ctx0 d):=
 ⟨Zb _,λ_ _=>rfl,λc b=>Zv b a.next,λc b=>by
  show d.val c=h.val c;unfold Heap.val;rw[a.get c b]⟩
theorem Later.agree{h d:Heap}{c b:Env}(a:Later h c d b):Env.Agree (DD (λi=>i<h.next) c) c b:=λi m e=>a.env i e.1
def Env.more(a:Env)(n e c d:Nat)(z:Option Addr):Env:=⟨λi=>if i=n then e else a.b i,λi=>if i=n then c else a.pre i,λi=>if i=n then d else a.cap i,λi=>if i=n then(e,z) else a.l i⟩
theorem Z0q(h:Heap)(d:Env)(v:V)(f c b:Nat)(z:Option Addr):Later h d (h.push (.ro v)) (d.more h.next f c b z):=by
 refine⟨YO _,λi g=>?_,λi g=>?_⟩
 .rw[Heap.get_push,Zg Xd]
 .have e:i≠h.next:=by omega
  simp only[Env.more,Zg e,and_self]
theorem Start.push{W0:World}{h:Heap}{g:Env}(s:Start W0 h g)(z:Option Addr){v:V}{p cap:Nat}{pre tail:List Value}{ty:TypeId}{fz:Nat×Nat}(C:W0.heap[p]? =some (.cells (pre++(cellsV g v++tail)).toArray ty fz))(u:InD (DD (λi=>i<h.next) g) v)(E:v.size<=cap):Start W0 (h.push (.ro v)) (g.more h.next p pre.length cap z):=by
 have k:=Z0q h g v p pre.length cap z;have f:∀i m,DD (λi=>i<h.next) g i m->DD (λi=>i<(h.push (.ro v)).next) (g.more h.next p pre.length cap z) i m:=λi m d=>⟨Zv d.1 k.next,by rw[(k.env i d.1).2.2.1];exact d.2⟩
 refine⟨λi d=>?_,λi b j=>?_⟩
 .have d:h.next+1<=i:=d;rw[Heap.get_push,Zg Xd];exact s.wf i Xd
 .rw[Heap.get_push] at j;split at j
  .rename_i e;cases j;subst e;refine⟨v,_,rfl,by simp only[Env.more,if_true];exact C,⟨pre,tail,ty,fz,?_,by simp[Env.more],by simp only[Env.more,if_true];exact E⟩,InD.mono f u⟩;rw[yZq k.agree u]
  .obtain⟨D,o,rfl,F,G,B⟩:=s.ro i b j;have d:i<h.next:=Nat.lt_of_not_le λq=>by rw[s.wf i q] at j;cases j
   exact⟨D,o,rfl,by rw[(k.env i d).1];exact F,G.agree k.agree (m:=0) ⟨d,Zf _⟩ B,InB.mono f B⟩
theorem Start.ghost{W0:World}{h:Heap}{i:Env}(s:Start W0 h i){f:Nat}{j:Array Value}{b:TypeId}{d:Nat×Nat}(k:W0.heap[f]? =some (.cells j b d))(a:Addr):Start W0 (h.push (.ro (.agg 0 []))) (i.more h.next f 0 0 (some a)):=by
 refine Start.push s (some a) (v:=.agg 0 []) (pre:=[]) (tail:=j.toList) (ty:=b) (fz:=d) ?_ trivial (Zb _);rw[k];simp[cellsV,fit]
structure Opnd(W0:World)(h:Heap)(ρ:Env)(cs:List Value)(s:List V)(h':Heap)(ρ':Env):Prop where
 la:Later h ρ h' ρ'
 st:Start W0 h' ρ'
 eq:cs=s.map (abq ρ')
 leaf:∀v∈s,v.leaf=true
 ind:InDL (DD (λi=>i<h'.next) ρ') s
theorem Later.dd{h d:Heap}{e b:Env}(a:Later h e d b):∀i m,DD (λi=>i<h.next) e i m->DD (λi=>i<d.next) b i m:=λi m c=>⟨Zv c.1 a.next,by rw[(a.env i c.1).2.2.1];exact c.2⟩
theorem Later.map{h e:Heap}{c b:Env}(a:Later h c e b){s:List V}(d:InDL (DD (λi=>i<h.next) c) s):s.map (abq b)=s.map (abq c):=by
 rw[<-k9q,<-k9q,qGq a.agree d]
theorem o7q{D:Nat->Nat->Prop}{a b:List V}(g:InDL D a)(d:InDL D b):InDL D (a++b):=InDL_iff.2 λv f=>by
 rcases ZO.1 f with h|h
 .exact InDL_iff.1 g v h
 .exact InDL_iff.1 d v h
theorem J8q{a:Env}:∀{s:List V},(∀v∈s,v.leaf=true) ->j8q a s=s.map (abq a)
 |[],_=>rfl
 |v::s,h=>by
  rw[j8q,kRq (h v (ZV ..)),J8q (s:=s) λx b=>h x (ZS _ b)];rfl
theorem Jaq{b:Env}{s:List V}(h:∀v∈s,v.leaf=true):cellsV b (.agg s.length s)=s.map (abq b):=by
 simp only[cellsV,J8q h];exact y2q Xi
theorem JVq{s:List V}(h:∀v∈s,v.leaf=true):zmq (.agg s.length s)=s:=YYq (λx b=>V.leaf_agg (h x b)) rfl
theorem HCL.len{W0:World}:∀{l:List W} {c:List Value},HCL W0 l c->c.length=l8q l
 |[],c,h=>by simp only[HCL] at h;subst h;rfl
 |x::l,c,h=>by
  simp only[HCL] at h;obtain⟨a,b,rfl,d,e⟩:=h;rw[Zh,HC.len d,HCL.len e];rfl
mutual
theorem h9q{W0:World}:∀(w:W) {q:List Value} {h:Heap} {j:Env},HC W0 w q->Start W0 h j->∃E B s,Opnd W0 h j q s E B/\RS (ctx0 E) w s
 |.bool b,q,h,j,hc,st=>by
  simp only[HC] at hc;subst hc
  exact⟨h,j,[.bool b],⟨Later.refl _ _,st,by simp[abq],by simp[V.leaf],⟨trivial,trivial⟩⟩,by simp[RS]⟩
 |.int k n,q,h,j,hc,st=>by
  simp only[HC] at hc;subst hc
  exact⟨h,j,[.int k n],⟨Later.refl _ _,st,by simp[abq],by simp[V.leaf],⟨trivial,trivial⟩⟩,by simp[RS]⟩
 |.str x,q,h,j,hc,st=>by
  simp only[HC] at hc;subst hc
  exact⟨h,j,[.str x],⟨Later.refl _ _,st,by simp[abq],by simp[V.leaf],⟨trivial,trivial⟩⟩,by simp[RS]⟩
 |.agg n l,q,h,j,hc,st=>by
  simp only[HC] at hc;obtain⟨E,B,s,o,r⟩:=evq l hc.2 st;exact⟨E,B,s,o,by simp only[RS];exact⟨by rw[<-hc.1,o.eq];simp,r⟩⟩
 |.arr n e l,q,h,j,hc,st=>by
  simp only[HC] at hc;obtain⟨E,B,s,o,r⟩:=evq l hc.2.2.2 st;exact⟨E,B,s,o,by simp only[RS];exact⟨by rw[<-hc.1,o.eq];simp,hc.2.1,r⟩⟩
 |.fz l e f,q,h,j,hc,st=>by
  simp only[HC] at hc;obtain⟨rfl,⟨rfl,rfl⟩|⟨rfl,Q,a,U,T,O,N,rfl,P⟩|⟨a,A,rfl,H,G,Q,I,Y,mid,C,O,N,P,J,R⟩⟩:=hc
  .exact⟨h,j,[.nils],⟨Later.refl _ _,st,by simp[abq],by simp[V.leaf],⟨trivial,trivial⟩⟩,by simp[RS]⟩
  .have L:=Z0q h j (.agg 0 []) U 0 0 (some a);refine⟨_,_,[.sl h.next 1 0 0 e (some 0)],⟨L,st.ghost P a,?_,by simp[V.leaf],⟨⟨Q,Zb _,YG _,by simp⟩,trivial⟩⟩,?_⟩
   .simp[abq,ysq,ydq,ZIq,Env.more]
   .simp only[RS];refine .inr ⟨h.next,1,0,some 0,.agg 0 [],rfl,λh=>Qi,YG _,?_,rfl,by simp[V.size],by simp,?_⟩
    .simp[ctx0,Heap.val,Heap.get_push]
    .simp[RSL]
  .obtain⟨D,F,s,o,r⟩:=evq l R st
   have S:s.length=l.length*e:=by
    have D:=HCL.len R;rw[xaq I,o.eq,Ze] at D;exact D
   have L:=Z0q D F (.agg s.length s) a.block a.off (A*e) none;have Z:l.length*e<=A*e:=Z7 e H
   have M:Start W0 (D.push (.ro (.agg s.length s))) (F.more D.next a.block a.off (A*e) none):=by
    rw[<-J];refine o.st.push none (tail:=C) (ty:=O) (fz:=N) ?_ o.ind (by show s.length<=A*e;omega);rw[Jaq o.leaf,<-o.eq];exact P
   refine⟨_,_,[.sl D.next 0 0 l.length e (some A)],⟨o.la.trans L,M,?_,by simp[V.leaf],⟨⟨Q,H,YG _,by simp[Env.more]⟩,trivial⟩⟩,?_⟩
   .obtain⟨ab,ao,X⟩:=a;simp only at G;subst G;by_cases K:A=0
    .subst K;simp[abq,ysq,ydq,Env.more]
    .simp[abq,ysq,ydq,Env.more,K]
   .simp only[RS];refine .inr ⟨D.next,0,0,some A,.agg s.length s,rfl,λh=>Qi,YG _,?_,rfl,by simp only[V.size];omega,I,?_⟩
    .simp[ctx0,Heap.val,Heap.get_push]
    .rw[ZX,JVq o.leaf,Zp Xd];exact RSL.mono L.le r
 |.undef,q,h,j,hc,st=>by simp[HC] at hc
 |.nilp,q,h,j,hc,st=>by simp[HC] at hc
 |.ptr _ _,q,h,j,hc,st=>by simp[HC] at hc
 |.nils,q,h,j,hc,st=>by simp[HC] at hc
 |.sl _ _ _ _ _ _,q,h,j,hc,st=>by simp[HC] at hc
 |.fel _,q,h,j,hc,st=>by simp[HC] at hc
 |.nilm,q,h,j,hc,st=>by simp[HC] at hc
 |.fn _ _ _,q,h,j,hc,st=>by simp[HC] at hc
 |.yield _,q,h,j,hc,st=>by simp[HC] at hc
 |.nilf,q,h,j,hc,st=>by simp[HC] at hc
 |.iface _ _,q,h,j,hc,st=>by simp[HC] at hc
 |.nili,q,h,j,hc,st=>by simp[HC] at hc
 |.tup _,q,h,j,hc,st=>by simp[HC] at hc
theorem evq{W0:World}:∀(l:List W) {j:List Value} {h:Heap} {g:Env},HCL W0 l j->Start W0 h g->∃q k s,Opnd W0 h g j s q k/\RSL (ctx0 q) l s
 |[],j,h,g,hc,st=>by
  simp only[HCL] at hc;subst hc
  exact⟨h,g,[],⟨Later.refl _ _,st,rfl,by simp,trivial⟩,by simp[RSL]⟩
 |x::l,j,h,g,hc,st=>by
  simp only[HCL] at hc;obtain⟨a,b,rfl,C,E⟩:=hc;obtain⟨u,y,z,f,B⟩:=h9q x C st;obtain⟨p,m,F,d,A⟩:=evq l E f.st;refine⟨p,m,z++F,⟨f.la.trans d.la,d.st,?_,?_,o7q (f.ind.mono d.la.dd) d.ind⟩,qtq (RS.mono d.la.le B) A⟩
  .rw[Z4,d.la.map f.ind,<-f.eq,<-d.eq]
  .intro v D;rcases ZO.1 D with h|h
   .exact f.leaf v h
   .exact d.leaf v h
end
def HV(W0:World)(w:W)(v:Value):Prop:=match w.isAgg with
 |true=>∃b,v= .agg b.toArray/\HC W0 w b
 |false=>HC W0 w [v]
def HVL(W0:World):List W->List Value->Prop
 |[],vs=>vs=[]
 |w::ws,vs=>∃v a,vs=v::a/\HV W0 w v/\HVL W0 ws a
theorem Aoq{W0:World}{w:W}{v:Value}{h:Heap}{k:Env}(d:HV W0 w v)(l:Start W0 h k):∃c b x,Later h k c b/\Start W0 c b/\abq b x=v/\InD (DD (λi=>i<c.next) b) x/\RV (ctx0 c) w x:=by
 unfold HV at d;split at d
 .rename_i f;obtain⟨q,rfl,p⟩:=d;obtain⟨c,b,s,o,r⟩:=h9q w p l;refine⟨c,b,.agg s.length s,o.la,o.st,?_,o.ind,f,by rw[JVq o.leaf];exact r⟩;rw[qPq rfl,Jaq o.leaf,<-o.eq]
 .rename_i f;obtain⟨c,b,s,o,r⟩:=h9q w d l;have j:=Zc List.length o.eq;simp only[Zo,ZP,Ze] at j;match s,j,o,r with
  |[x],_,o,r=>
   have e:=o.eq;simp only[ZD,List.map_nil,YM,and_true] at e;exact⟨c,b,x,o.la,o.st,e.symm,o.ind.1,RV.of_one r f (V.leaf_agg (o.leaf x Xi))⟩
theorem iaq{W0:World}:∀{j:List W} {d:List Value} {h:Heap} {c:Env},HVL W0 j d->Start W0 h c->∃e a b,Later h c e a/\Start W0 e a/\zPq a b=d/\InDL (DD (λi=>i<e.next) a) b/\RVL (ctx0 e) j b
 |[],d,h,c,hv,st=>by
  simp only[HVL] at hv;subst hv
  exact⟨h,c,[],Later.refl _ _,st,rfl,trivial,by simp[RVL]⟩
 |w::j,d,h,c,hv,st=>by
  simp only[HVL] at hv;obtain⟨v,B,rfl,A,C⟩:=hv;obtain⟨F,q,x,l,o,y,k,u⟩:=Aoq A st;obtain⟨t,g,b,f,D,n,z,E⟩:=iaq C o;refine⟨t,g,x::b,l.trans f,D,?_,⟨k.mono f.dd,z⟩,?_⟩
  .rw[zPq,n,qaq f.agree k,y]
  .simp only[RVL];exact⟨x,b,rfl,RV.mono f.le u,E⟩
end
section
open Go.RowKit Go.ChangeShapes Go.WideShapes
inductive Sh where
 |bool
 |int (k:IntKind)
 |str
 |arr (n sz:Nat) (s:Sh)
 |st (n:Nat) (fs:List Sh)
 |sl (sz bz:Nat) (s:Sh)
def Sh.cells:Sh->Nat
 |.arr n b _=>n*b
 |.st n _=>n
 |_=>1
def Sh.agg:Sh->Bool
 |.arr _ _ _=>true
 |.st _ _=>true
 |_=>false
def shF(g:TypeId->Option Sh)(P:Program):List Field->Nat->Option (List Sh×Nat)
 |[],off=>some ([],off)
 |F::Fs,off=>match g F.type with
  |some s=>match Nat.beq F.offset off&&Nat.beq (P.cellsOf F.type) s.cells with
   |true=>match shF g P Fs (off+s.cells) with
    |some (l,n)=>some (s::l,n)
    |none=>none
   |false=>none
  |none=>none
def hjq(P:Program):Nat->TypeId->Option Sh
 |0,_=>none
 |d+1,t=>match P.underlying t with
  |some .bool=>some .bool
  |some (.int k)=>some (.int k)
  |some .string=>some .str
  |some (.array n e)=>match hjq P d e with
   |some s=>match Nat.beq (P.cellsOf e) s.cells&&Nat.beq (P.cellsOf t) (n*s.cells) with
    |true=>some (.arr n s.cells s)
    |false=>none
   |none=>none
  |some (.slice e)=>match hjq P d e with
   |some s=>match Nat.beq (P.cellsOf e) s.cells&&Nat.blt 0 s.cells with
    |true=>some (.sl s.cells (P.bytesOf e) s)
    |false=>none
   |none=>none
  |some (.struct F)=>match shF (hjq P d) P F.toList 0 with
   |some (l,n)=>match Nat.beq (P.cellsOf t) n with
    |true=>some (.st n l)
    |false=>none
   |none=>none
  |_=>none
mutual
/-- a value of that shape -/
def Fit:Sh->W->Prop
 |.bool,w=>∃b,w= .bool b
 |.int k,w=>∃n,w= .int k n/\(Lit.int k n).wf=true
 |.str,w=>∃x,w= .str x/\x.length<=reachBytes
 |.arr n sz s,w=>∃l,w= .arr (n*sz) sz l/\l.length=n/\∀x∈l,Fit s x
 |.st n fs,w=>∃l,w= .agg n l/\FitL fs l
 |.sl sz bz s,w=>∃l,w= .fz l sz false/\l.length*bz<=reachBytes/\∀x∈l,Fit s x
def FitL:List Sh->List W->Prop
 |[],l=>l=[]
 |s::fs,l=>∃x a,l=x::a/\Fit s x/\FitL fs a
end
theorem Fit.size{s:Sh}{w:W}(h:Fit s w):w.size=s.cells:=by
 cases s<;>simp only[Fit] at h
 case bool=>obtain⟨_,rfl⟩:=h;rfl
 case int=>obtain⟨_,rfl,_⟩:=h;rfl
 case str=>obtain⟨_,rfl,_⟩:=h;rfl
 all_goals (obtain⟨_,rfl,_⟩:=h;rfl)
theorem Fit.agg{s:Sh}{w:W}(h:Fit s w):w.isAgg=s.agg:=by
 cases s<;>simp only[Fit] at h
 case bool=>obtain⟨_,rfl⟩:=h;rfl
 case int=>obtain⟨_,rfl,_⟩:=h;rfl
 case str=>obtain⟨_,rfl,_⟩:=h;rfl
 all_goals (obtain⟨_,rfl,_⟩:=h;rfl)
def Ex0(W0:World):Prop:=∃(b:Nat) (f:Array Value) (d:TypeId) (a:Nat×Nat),W0.heap[b]? =some (.cells f d a)
theorem CLq{W0:World}{s:Sh}{sz:Nat}:∀(n:Nat) (L:List Value),(∀i,i<n->∃w,Fit s w/\HC W0 w ((L.drop (i*sz)).take sz)) ->∃l:List W,l.length=n/\(∀x∈l,Fit s x)/\HCL W0 l (L.take (n*sz))
 |0,L,_=>⟨[],rfl,by simp,by simp[HCL]⟩
 |n+1,L,h=>by
  obtain⟨w,f,d⟩:=h 0 Xd
  obtain⟨l,g,j,q⟩:=CLq n (L.drop sz) (λi u=>by
   have:=h (i+1) Xd;rw[YB,show sz+i*sz=(i+1)*sz by rw[ZQ];omega];exact this)
  refine⟨w::l,by simp[g],?_,?_⟩
  .intro x b;rcases ZB.1 b with rfl|b
   .exact f
   .exact j x b
  .simp only[HCL];refine⟨L.take sz,(L.drop sz).take (n*sz),?_,by simpa using d,q⟩;rw[show(n+1)*sz=sz+n*sz by rw[ZQ];omega,List.take_add]
section
variable {H:Type} {enc:TypeId×Value->H} {P:Program} {W0:World}
theorem xcq{e:TypeId}:∀{l:List (DataW H)} {d:DataW H} {n:Nat},d∈l->n∈d.weights P e->n∈DataW.weightsAll P e l
 |[],_,_,h,_=>by simp at h
 |x::l,d,n,h,hn=>by
  rw[DataW.weightsAll];rcases ZB.1 h with rfl|h
  .exact List.mem_append_left _ hn
  .exact List.mem_append_right _ (xcq h hn)
abbrev Tr0(enc:TypeId×Value->H)(P:Program)(W0:World):=DataW.trod enc P W0 0 (λ_=>true) true
theorem p0q{g:TypeId->Option Sh}{m:Nat}(z:∀t A,g t=some A->∀d x,Tr0 enc P W0 m t d=some x->(∀n∈x.1.weights P t,n<=reachBytes) ->((∃a n c,Value.slice (some a) n c∈d) ->Ex0 W0) ->∃w,Fit A w/\HC W0 w d)(d:List Value)(B:(∃a n c,Value.slice (some a) n c∈d) ->Ex0 W0):
  ∀(Fs:List Field) (h:List (DataW H×List MemPlace)) (b:Nat) (j:List Sh) (n:Nat),shF g P Fs b=some (j,n) ->h.length=Fs.length->(∀(i:Nat) (f:Field),Fs[i]? =some f->Tr0 enc P W0 m f.type ((d.drop f.offset).take (P.cellsOf f.type))=h[i]?) ->
   (∀n∈DataW.weightsEach P (Fs.map (·.type)) (h.map (·.1)),n<=reachBytes) ->∃l,FitL j l/\HCL W0 l ((d.drop b).take (n-b))/\b<=n
 |[],h,b,j,n,hs,hl,hx,hw=>by
  simp only[shF,Zm,ZR] at hs;obtain⟨rfl,rfl⟩:=hs;exact⟨[],by simp[FitL],by simp[HCL],Zb _⟩
 |F::Fs,[],b,j,n,hs,hl,hx,hw=>by simp at hl
 | F ::Fs,x::h,b,j,n,hs,hl,hx,hw=>by
  unfold shF at hs;split at hs
  .rename_i s E;split at hs
   .rename_i o;simp only[Zd,ZH] at o;split at hs
    .rename_i G q J;simp only[Zm,ZR] at hs;obtain⟨rfl,rfl⟩:=hs;simp only[ZD,DataW.weightsEach] at hw
     obtain⟨l,D,L,M⟩:=p0q z d B Fs h (b+s.cells) G q J (by simpa using hl) (λi f hf=>by
      have:=hx (i+1) f Jf;simpa using this) (λk u=>hw k (List.mem_append_right _ u))
     have C:=hx 0 F rfl;simp only[List.getElem?_cons_zero] at C;obtain⟨w,I,v⟩:=z F.type s E _ x C (λk u=>hw k (List.mem_append_left _ u)) (λ⟨a,n,c,K⟩=>B ⟨a,n,c,ZF (ZJ K)⟩);rw[o.1,o.2] at v;refine⟨w::l,⟨w,l,rfl,I,D⟩,?_,by omega⟩;simp only[HCL];refine⟨_,_,?_,v,L⟩;rw[show q-b=s.cells+(q-(b+s.cells)) by omega,List.take_add,YB]
    .cases hs
   .cases hs
  .cases hs
theorem Zbq:∀(d:Nat) (t:TypeId) (X:Sh),hjq P d t=some X->∀(O:Nat) (M:List Value) (x:DataW H×List MemPlace),Tr0 enc P W0 O t M=some x->(∀n∈x.1.weights P t,n<=reachBytes) ->((∃a n c,Value.slice (some a) n c∈M) ->Ex0 W0) ->∃w,Fit X w/\HC W0 w M
 |0,t,X,q=>by simp[hjq] at q
 | d + 1, t,X,q=>λO M x h U hE=>by
  unfold hjq at q;split at q
  .rename_i C;cases q;obtain⟨b,rfl,rfl⟩:=DataW.trod_bool C h;exact⟨.bool b,⟨b,rfl⟩,by simp[HC]⟩
  .rename_i k C;cases q;obtain⟨n,rfl,rfl,hwf⟩:=DataW.trod_int C h;exact⟨.int k n,⟨n,rfl,hwf⟩,by simp[HC]⟩
  .rename_i C;cases q;obtain⟨s,rfl,rfl,hsz⟩:=DataW.trod_string C h;refine⟨.str s.data.toList,⟨_,rfl,?_⟩,?_⟩
   .exact U _ (by simp[DataW.weights])
   .simp only[HC]
  .rename_i n e C;split at q
   .rename_i s he;split at q
    .rename_i J;cases q;simp only[Zd,ZH] at J;obtain⟨xs,m,rfl,rfl,hl,hxl,R⟩:=DataW.trod_array C h;rw[J.1] at R;have U:∀k∈DataW.weightsAll P e (xs.map (·.1)),k<=reachBytes:=λk E=>U k (by simp only[DataW.weights,C];exact E)
     obtain⟨l,l1,l2,l3⟩:=CLq (W0:=W0) (s:=s) (sz:=s.cells) n M (λi hi=>by
      have W:=R i hi;have D:i<xs.length:=by omega
      rw[Za D] at W;exact Zbq d e s he m _ _ W (λk E=>U k (xcq (List.mem_map_of_mem (List.getElem_mem D)) E)) (λ⟨a,n,c,hm⟩=>hE ⟨a,n,c,ZF (ZJ hm)⟩))
     have V:M.length=n*s.cells:=by rw[hl,J.2]
     refine⟨.arr (n*s.cells) s.cells l,⟨l,rfl,l1,l2⟩,?_⟩;simp only[HC];refine⟨V,λx R=>(l2 x R).size,by rw[l1],?_⟩;rwa[Zp Xd] at l3
    .cases q
   .cases q
  .rename_i e C;split at q
   .rename_i s he;split at q
    .rename_i J;cases q;simp only[Zd,ZH] at J;obtain⟨hce,A⟩:=J;have A:0<s.cells:=lEq A;rcases DataW.trod_slice C h with ⟨rfl,rfl⟩|⟨a,len,cap,elems,rest,n,rfl,rfl,rfl,hb,hl,hm,hlen,hel,hsp,_⟩
     .exact⟨.fz [] s.cells false,⟨[],rfl,by simp,by simp⟩,by unfold HC;exact⟨rfl,.inl ⟨rfl,rfl⟩⟩⟩
     .by_cases hc0:cap=0
      .subst hc0;obtain rfl:len=0:=by omega
       obtain⟨bn,B,ty,fz,Y⟩:=hE ⟨a,0,0,by simp⟩;exact⟨.fz [] s.cells false,⟨[],rfl,by simp,by simp⟩,by unfold HC;exact⟨rfl,.inr (.inl ⟨rfl,A,a,bn,B,ty,fz,rfl,Y⟩)⟩⟩
      .obtain⟨hrl,hr⟩:=hsp rfl;rw[hce] at hel hr
       have I:∀i,i<cap->∃j y,W0.cells? 0 (a.add (i*s.cells)) s.cells=some j/\Tr0 enc P W0 n e j=some y/\(i<len->elems[i]? =some y):=λi hi=>by
        by_cases W:i<len
        .have S:=hel i W;have D:i<elems.length:=by omega
         rw[Za D,Option.bind_eq_some_iff] at S;obtain⟨j,N,K⟩:=S;exact⟨j,_,N,K,λ_=>Za D⟩
        .have S:=hr (i-len) Xd;have D:i-len<rest.length:=by omega
         rw[Za D,Option.bind_eq_some_iff,show len+(i-len)=i by omega] at S;obtain⟨j,N,K⟩:=S;exact⟨j,_,N,K,λh=>absurd h W⟩
       --the block
       obtain⟨cs0,y0,e0,_,_⟩:=I 0 Xd;obtain⟨_,l0,c0⟩:=World.cells?_some e0;have Q:=c0 0 A;rw[Nat.zero_mul] at Q;have ha0:(a.add 0).add 0=a:=by simp[Addr.add]
       rw[ha0,Za Xd] at Q;obtain⟨ab,T,asp⟩:=a;unfold World.cell? at Q;split at Q
       .rename_i B ty fz Y;simp only at Y Q;split at Q
        .cases Q
        .rename_i G;have G:asp=none:=by simpa using G
         subst G;obtain⟨L,hL⟩:∃L,L=B.toList.drop T:=⟨_,rfl⟩
         have Z:∀i,i<cap->∀j,W0.cells? 0 (Addr.add ⟨ab,T,none⟩ (i*s.cells)) s.cells=some j->j=(L.drop (i*s.cells)).take s.cells:=λi hi j hcs=>by
          obtain⟨_,N,K⟩:=World.cells?_some hcs;apply List.ext_getElem?;intro k;by_cases E:k<s.cells
          .have:=K k E;rw[jZq,jZq] at this;simp only[World.cell?,Y] at this;rw[<-this,List.getElem?_take_of_lt E,Z0,hL,Z0,Array.getElem?_toList,ZM];simp
          .rw[List.getElem?_eq_none Xd,List.getElem?_eq_none Xn]
         have hLlen:cap*s.cells<=L.length:=by
          obtain⟨j,y,N,_,_⟩:=I (cap-1) Xd;obtain⟨_,K,_⟩:=World.cells?_some N;have q3:=Z (cap-1) Xd j N;have q4:=Zc List.length q3;rw[K,Zu,Zy] at q4
          have:cap*s.cells=(cap-1)*s.cells+s.cells:=by
           have:=ZQ (cap-1) 1 s.cells;rw[show cap-1+1=cap by omega] at this;omega
          omega
         have hw2:∀k∈DataW.weightsAll P e (elems.map (·.1)),k<=reachBytes:=λk E=>U k (by simp only[DataW.weights,C];exact ZS _ (List.mem_append_left _ E))
         have hw1:(elems.length+rest.length)*P.bytesOf e<=reachBytes:=U _ (by simp only[DataW.weights,C,Ze];exact ZV ..)
         obtain⟨l,l1,l2,l3⟩:=CLq (W0:=W0) (s:=s) (sz:=s.cells) len L (λi hi=>by
          obtain⟨j,y,N,K,q3⟩:=I i Xd;rw[Z i Xd j N] at K;exact Zbq d e s he n _ _ K (λk E=>hw2 k (xcq (List.mem_map_of_mem (Zj (q3 hi))) E)) (λ_=>⟨ab,B,ty,fz,Y⟩))
         have hlc:len*s.cells<=cap*s.cells:=Z7 _ hl;refine⟨.fz l s.cells false,⟨l,rfl,?_,l2⟩,?_⟩
         .rw[l1];refine Zt (Z7 _ ?_) hw1;omega
         .unfold HC;refine⟨rfl,.inr (.inr ⟨⟨ab,T,none⟩,cap,by rw[l1],by omega,rfl,A,λx R=>(l2 x R).size,B.toList.take T,L.take (len*s.cells),L.drop (len*s.cells),ty,fz,?_,?_,l3⟩)⟩
          .rw[ZK,hL,ZK,Array.toArray_toList];exact Y
          .have hq:(B.toList.take T).length=min T B.toList.length:=Zu;have:=Zc List.length hL;rw[Zy] at this;have S:0<cap*s.cells:=Nat.mul_pos Xd A;show(B.toList.take T).length=T;omega
       .cases Q
    .cases q
   .cases q
  .rename_i F C;split at q
   .rename_i fs n hF;split at q
    .rename_i J;cases q;have J:=Zi J;obtain⟨xs,m,rfl,rfl,hl,hxl,R⟩:=DataW.trod_struct C h;obtain⟨l,k1,k2,k3⟩:=p0q (enc:=enc) (λt X q M x W S h3=>Zbq d t X q m M x W S h3) M hE F.toList xs 0 fs n hF (by simpa using hxl) (λi f hf=>R i f Jf) (λk E=>U k (by simp only[DataW.weights,C];exact E));have V:M.length=n:=by rw[hl,J]
     refine⟨.agg n l,⟨l,rfl,k1⟩,?_⟩;simp only[HC];refine⟨V,?_⟩;rwa[ZX,Y8,Zp Xd] at k2
    .cases q
   .cases q
  .cases q
theorem mTq{b:Nat}{x:TypeId×Nat}(h:W0.shape? b=some x):Ex0 W0:=by
 unfold World.shape? at h;split at h
 .rename_i j g d f;exact⟨b,j,g,d,f⟩
 .cases h
theorem lyq{r:Reach}{b:Nat}{u:TypeId}{a:Addr}{n c:Nat}(h:Cell.okWide P W0 r b u (.slice (some a) n c)):Ex0 W0:=by
 unfold Cell.okWide at h;split at h
 all_goals first
  |(rename_i d;cases d;done)
  |skip
 unfold Cell.ok at h;split at h
 all_goals first
  |exact h.elim
  |(rename_i d;cases d;done)
  |skip
 rename_i d;cases d;obtain⟨_,_,j,f,g,_⟩:=h.2.2;exact mTq g
theorem fhq{r:Reach}{a:Nat}{u:TypeId}{v:Value}(h:Cell.okWide P W0 r a u v):v.cells= #[v]:=by
 cases v<;>first
  |rfl
  | (exfalso
     unfold Cell.okWide at h;split at h
     all_goals first
      |(rename_i b;cases b;done)
      |skip
     unfold Cell.ok at h;split at h
     all_goals first
      |exact h.elim
      |(rename_i b;cases b;done))
theorem w5q{r:Reach}{b:Nat}{t:TypeId}{d:Array Value}(h:Row.okWide P W0 r b t d){a:Addr}{n c:Nat}(e:Value.slice (some a) n c∈d.toList):Ex0 W0:=by
 obtain⟨k,_,_,g⟩:=h;obtain⟨i,j⟩:=List.getElem?_of_mem e;obtain⟨u,_,f⟩:=g i _ (by simpa using j);exact lyq f
theorem Asq{r:Reach}{j d:Nat}{t:TypeId}{u:Sh}{v:Value}(b:hjq P d t=some u)(f:Value.okWide P W0 r j t v):match u.agg with
  |true=>∃o:Array Value,v= .agg o/\Row.okWide P W0 r j t o
  |false=>Cell.okWide P W0 r j t v:=by
 cases d with
 |zero=>simp[hjq] at b
 |succ d=>
  unfold hjq at b;unfold Value.okWide at f;split at b
  .rename_i h;cases b;rw[h] at f;exact f
  .rename_i k h;cases b;rw[h] at f;exact f
  .rename_i h;cases b;rw[h] at f;exact f
  .rename_i n e h;rw[h] at f;obtain⟨o,rfl,_,q⟩:=f;split at b
   .split at b
    .cases b;exact⟨o,rfl,q⟩
    .cases b
   .cases b
  .rename_i e h;rw[h] at f;split at b
   .split at b
    .cases b;exact f
    .cases b
   .cases b
  .rename_i F h;rw[h] at f;obtain⟨o,rfl,_,q⟩:=f;split at b
   .split at b
    .cases b;exact⟨o,rfl,q⟩
    .cases b
   .cases b
  .cases b
theorem nsq{r:Reach}{g d:Nat}{t:TypeId}{k:Sh}{v:Value}{x:DataW H}{p:List MemPlace}(q:hjq P d t=some k)(z:Value.okWide P W0 r g t v)(y:DataW.Trod enc P W0 0 (λ_=>true) true t v x p)(A:∀n∈x.weights P t,n<=reachBytes):∃w,Fit k w/\HV W0 w v:=by
 obtain⟨h,u⟩:=y;have e:=Asq q z
 obtain⟨w,f,l⟩:=Zbq d t k q h _ _ u A (λ⟨a,n,c,j⟩=>by
  split at e
  .obtain⟨s,rfl,m⟩:=e;exact w5q m j
  .rw[fhq e] at j;simp only[ZB,ZW,or_false] at j;rw[<-j] at e;exact lyq e)
 refine⟨w,f,?_⟩;unfold HV;rw[f.agg];generalize k.agg=ag at e;cases ag with
 |true=>
  obtain⟨s,rfl,m⟩:=e;exact⟨s.toList,by simp,l⟩
 |false=>
  have e:Cell.okWide P W0 r g t v:=e;rw[fhq e] at l;exact l
def shAll(P:Program)(d:Nat):List TypeId->Option (List Sh)
 |[]=>some []
 |t::ts=>match hjq P d t,shAll P d ts with
  |some s,some l=>some (s::l)
  |_,_=>none
theorem open_all{r:Reach}{u d:Nat}:∀{h:List TypeId} {b:List Sh} {g:List Value} {y:List (DataW H)} {p:List MemPlace},shAll P d h=some b->(∀(j:Nat) t v,h[j]? =some t->g[j]? =some v->Value.okWide P W0 r u t v) ->
  DataW.TrodAll enc P W0 0 (λ_=>true) true h g y p->(∀n∈DataW.weightsEach P h y,n<=reachBytes) ->∃o,FitL b o/\HVL W0 o g
 |[],b,g,y,p,hs,hv,hd,hw=>by
  obtain⟨rfl,rfl,rfl⟩:=trodAll_nil hd;simp only[shAll,Zm] at hs;subst hs;exact⟨[],by simp[FitL],by simp[HVL]⟩
 |t::h,b,g,y,p,hs,hv,hd,hw=>by
  obtain⟨v,z,x,I,L,q,rfl,rfl,rfl,G,K⟩:=trodAll_cons hd;simp only[shAll] at hs;split at hs
  .rename_i s l B C;cases hs;simp only[DataW.weightsEach] at hw;obtain⟨w,f,k⟩:=nsq B (hv 0 t v Y Y) G (λn A=>hw n (List.mem_append_left _ A));obtain⟨o,F,E⟩:=open_all C (λj t v J D=>hv (j+1) t v (by simpa using J) (by simpa using D)) K (λn A=>hw n (List.mem_append_right _ A));exact⟨w::o,⟨w,o,rfl,f,F⟩,⟨v,z,rfl,k,E⟩⟩
  .cases hs
def rowedAll(P:Program):List TypeId->Bool
 |[]=>true
 |t::ts=>P.readableRec t&&Nat.blt t P.types.size&&rowedAll P ts
theorem Below.trodAll(e:laidOutB P=true){W W':World}(f:Below W.heap.size W W'):∀{c:List TypeId} {a:List Value} {d:List (DataW H)} {p:List MemPlace},rowedAll P c=true->DataW.TrodAll enc P W 0 (λ_=>true) true c a d p->DataW.TrodAll enc P W' 0 (λb=>decide (b<W.heap.size)) true c a d p
 |[],a,d,p,hr,h=>by
  obtain⟨rfl,rfl,rfl⟩:=trodAll_nil h;exact trodAll_mk0
 |t::c,a,d,p,hr,h=>by
  simp only[rowedAll,Zd] at hr;obtain⟨v,j,x,k,n,q,rfl,rfl,rfl,g,l⟩:=trodAll_cons h;refine trodAll_cons_mk (Below.trod e hr.1.1 (lEq hr.1.2) g f ?_) (Below.trodAll e f hr.2 l);obtain⟨m,i⟩:=g;exact DataW.trod_lt m _ _ _ i
end
theorem Later.glob{C:Cfg}{h e:Heap}{b a:Env}(c:Later h b e a)(l:GlobOK C (DD (λi=>i<h.next) b) b):GlobOK C (DD (λi=>i<e.next) a) a:=λg f=>by
 obtain⟨d,m,n⟩:=l g f;obtain⟨j,k,_,_⟩:=c.env g d.1;exact⟨c.dd _ _ d,by rw[j];exact m,by rw[k];exact n⟩
theorem Later.grel{C:Cfg}{G:Nat->Option W}{h a:Heap}{j c:Env}(e:Later h j a c)(i:GRel C G (ctx0 h)):GRel C G (ctx0 a):=λg w f k b d=>
 RV.mono (Γ:=⟨b,d,(ctx0 h).D,(ctx0 h).h⟩) (Γ':=⟨b,d,(ctx0 a).D,(ctx0 a).h⟩) ⟨Zb _,λ_ _=>rfl,e.le.D,e.le.val⟩ (i g w f k b d)
theorem calls_of{P:Program}{C:Cfg}{G:Nat->Option W}(k:P.follows .mixedOrders=true)(y:CfgOK P C)(H:Ycq P C)(E:jQq P C){f:FuncId}{c:List Sh}(A:∀a,FitL c a->PS C G f a (.bool true)){W0:World}{h:Heap}{g:Env}(s:Start W0 h g)
  (D:GlobOK C (DD (λi=>i<h.next) g) g) (B:GRel C G (ctx0 h)) {q:List Value} (j:∃a,FitL c a/\HVL W0 a q):
  Calls P f q.toArray W0 λe w=>e= .returned (.bool true)/\Below W0.heap.size W0 w:=by
 obtain⟨a,z,j⟩:=j;obtain⟨J,v,I,p,F,rfl,i,r⟩:=iaq j s;exact law1 k y H E (A a z) F (p.glob D) (p.grel B) i r
mutual
def gqq:Sh->List Value
 |.bool=>[.bool false]
 |.int k=>[.int k 0]
 |.str=>[.string ⟨#[]⟩]
 |.arr n _ s=>(List.replicate n (gqq s)).flatten
 |.st _ d=>gpq d
 |.sl _ _ _=>[.slice none 0 0]
def gpq:List Sh->List Value
 |[]=>[]
 |s::l=>gqq s++gpq l
end
def zVal(s:Sh):Value:=match s.agg,gqq s with
 |true,l=>.agg l.toArray
 |false,v::_=>v
 |false,[]=>.bool false
end
section
open Go.RowKit
theorem K6q{i:Type}{f:i->W}{Q:i->Prop}:∀{l:List W},(∀x∈l,∃a,x=f a/\Q a) ->∃d:List i,l=d.map f/\∀a∈d,Q a
 |[],_=>⟨[],rfl,by simp⟩
 |x::l,h=>by
  obtain⟨a,rfl,k⟩:=h x (ZV ..);obtain⟨d,rfl,m⟩:=K6q (l:=l) λy j=>h y (ZS _ j)
  exact⟨a::d,rfl,λb g=>by
   rcases ZB.1 g with rfl|g
   .exact k
   .exact m b g⟩
theorem Bhq{w:W}(h:Fit (.int .u8) w):∃c:UInt8,w= .int .u8 (.ofNat c.toNat)/\True:=by
 obtain⟨n,rfl,b⟩:=h
 have d:0<=n/\n<=255:=by
  simp[Lit.wf,IntKind.min,IntKind.max,IntKind.signed,IntKind.bits] at b;omega
 refine⟨UInt8.ofNat n.toNat,?_,trivial⟩;congr 1
 have:(UInt8.ofNat n.toNat).toNat=n.toNat:=by simp;omega
 rw[this];show n=((n.toNat:Nat):Int);omega
theorem Z5q{w:W}(h:Fit (.int .i64) w):∃n:Int,w= .int .i64 n/\-9223372036854775808<=n/\n<=9223372036854775807:=by
 obtain⟨n,rfl,b⟩:=h
 have a:-9223372036854775808<=n/\n<=9223372036854775807:=by
  simp[Lit.wf,IntKind.min,IntKind.max,IntKind.signed,IntKind.bits] at b;omega
 exact⟨n,rfl,a⟩
theorem b3q{l:List W}(h:∀x∈l,Fit (.int .u8) x):∃b:List UInt8,l=zcq b:=by
 obtain⟨b,rfl,_⟩:=K6q (f:=λc:UInt8=>W.int .u8 (.ofNat c.toNat)) (Q:=λ_=>True) λx d=>Bhq (h x d)
 exact⟨b,rfl⟩
theorem i0q{w:W}(h:Fit (.arr 32 1 (.int .u8)) w):∃k:Dig,w=dW k:=by
 obtain⟨l,rfl,c,b⟩:=h;obtain⟨d,rfl⟩:=b3q b;exact⟨⟨d,by simpa[zcq] using c⟩,rfl⟩
theorem pYq{a:Nat}{w:W}(h:Fit (.sl 1 a (.int .u8)) w):∃b:List UInt8,w=bW b/\b.length*a<=140737488351232:=by
 obtain⟨l,rfl,d,c⟩:=h;obtain⟨e,rfl⟩:=b3q c;exact⟨e,rfl,by simpa[zcq,reachBytes] using d⟩
theorem fit_sl{c:Type}{f:c->W}{Q:c->Prop}{e d:Nat}{s:Sh}{w:W}(h:Fit (.sl e d s) w)(j:∀x,Fit s x->∃a,x=f a/\Q a):∃b:List c,w= .fz (b.map f) e false/\b.length*d<=140737488351232/\∀a∈b,Q a:=by
 obtain⟨l,rfl,g,i⟩:=h;obtain⟨b,rfl,m⟩:=K6q λx k=>j x (i x k)
 exact⟨b,rfl,by simpa[reachBytes] using g,m⟩
section
attribute [local irreducible] CoW OpW FlW aeq ajq
variable {G:Nat->Option W}
structure BodOk(ds:List Depo)(xs:List Tx):Prop where
 dep:∀d∈ds,d.number<18446744073709551616/\d.amount<18446744073709551616
 tx:∀x∈xs,x.ok
 dl:ds.length<=140737488351232
 xl:xs.length<=140737488351232
def rrq(b:List Depo)(a:List Tx):Prop:=(4<b.length/\b.length<=16)\/20<b.length\/(4<a.length/\a.length<=16)\/20<a.length
instance(b:List Depo)(a:List Tx):Decidable (rrq b a):=Classical.propDecidable _
end
theorem T.uniq:∀{a b:T} {d:Nat} {k:Dig},Zr d k->a.ok d k=true->b.ok d k=true->a.all=b.all->a=b
 |.nil,b,d,k,_,_,hb,e=>by
  cases b with
  |nil=>rfl
  |leaf=>simp[T.all] at e
  |fork l r=>
   obtain⟨_,j,m,q⟩:=ok_fork.1 hb;have:=cAq j m q;have c:=Zc List.length e;simp only[T.all,Zh,Zo,ZP] at c;omega
 |.leaf x v,b,d,k,_,_,hb,e=>by
  cases b with
  |nil=>simp[T.all] at e
  |leaf=>simp only[T.all,YM,ZR,and_true] at e;rw[e.1,e.2]
  |fork l r=>
   obtain⟨_,j,m,q⟩:=ok_fork.1 hb;have:=cAq j m q;have c:=Zc List.length e;simp only[T.all,Zh,Zo,ZP] at c;omega
 |.fork l r,b,d,k,hz,ha,hb,e=>by
  obtain⟨B,j,m,q⟩:=ok_fork.1 ha;have F:=cAq j m q;cases b with
  |nil=>
   have c:=Zc List.length e;simp only[T.all,Zh,Zo,ZP] at c;omega
  |leaf=>
   have c:=Zc List.length e;simp only[T.all,Zh,Zo,ZP] at c;omega
  |fork G H=>
   obtain⟨_,y,C,I⟩:=ok_fork.1 hb
   have s:∀{l r:T},(T.fork l r).ok d k=true->l.all=(T.fork l r).all.filter (λp=>bitN p.1 d==0)/\r.all=(T.fork l r).all.filter (λp=>bitN p.1 d==1):=by
    intro l r h;obtain⟨w,u⟩:=c9q hz h;simp only[T.all,List.filter_append];rw[Y0q (l:=l.all) (λp g=>by simp[w p g]),Zpq (l:=r.all) (λp g=>by simp[u p g]),Zpq (l:=l.all) (λp g=>by simp[w p g]),Y0q (l:=r.all) (λp g=>by simp[u p g])];simp
   obtain⟨A,E⟩:=s ha;obtain⟨z,D⟩:=s hb;rw[T.uniq (jcq hz) j y (by rw[A,z,e]),T.uniq (jbq hz B) m C (by rw[E,D,e])]
theorem IsT.same{t c:Tree}{n d:Nat}{a b:T}(h:IsT t n a)(f:IsT c d b)(e:a.all=b.all):a=b:=T.uniq vmq h.ok f.ok e
def recI(r:Rec):RcI:=⟨r.kind,r.id,(r.code:Int)⟩
def B5q(h p:Hdr):Prop:=okH h/\okH p/\h.height=p.height+1/\h.parent=iQq p
instance(h p:Hdr):Decidable (B5q h p):=Classical.propDecidable _
instance(b:List Depo)(a:List Tx):Decidable (t8q b a):=Classical.propDecidable _
def ghq(c:Ch)(r:Int):Tree:=⟨c.tree.nodes,r⟩
structure LkM(c:Ch)(i:Nat)(x:Lk):Prop where
 height:x.hdr.height=(i:Int)
 hdr:okH x.hdr
 fol:∀y,0<i->c.links[i-1]? =some y->B5q x.hdr y.hdr
 recs:((x.rs.length:Nat):Int)=x.hdr.many
 body:t8q x.ds x.xs
 tree:l5q (ghq c x.root)
structure MayC(c:Ch):Prop where
 one:0<c.links.length
 len:c.links.length<=256
 root:∀x,c.links[c.links.length-1]? =some x->c.tree.root=x.root
 link:∀i x,c.links[i]? =some x->LkM c i x
instance(c:Ch):Decidable (MayC c):=Classical.propDecidable _
def tfq(a:T):Hdr:=⟨0,zeroD,baq a,cLq 0 [],0⟩
structure LkS(c:Ch)(box:Dig)(i:Nat)(x:Lk):Prop where
 first:i=0->∃n t0,IsA (ghq c x.root) n t0/\x.hdr=tfq t0/\x.ds=[]/\x.xs=[]
 next:∀y,0<i->c.links[i-1]? =some y->∃n t0 n1 t1 rs,IsA (ghq c y.root) n t0/\IsA (ghq c x.root) n1 t1/\doX box (doD t0.all x.ds).1 x.xs=some (t1.all,rs)/\x.hdr=Diq y.hdr t1 ((doD t0.all x.ds).2++rs)/\x.rs=((doD t0.all x.ds).2++rs).map recI
structure SoundC(c:Ch)(box:Dig):Prop extends MayC c where
 sound:∀i x,c.links[i]? =some x->LkS c box i x
instance(c:Ch)(a:Dig):Decidable (SoundC c a):=Classical.propDecidable _
theorem MayC.last{c:Ch}(h:MayC c):∃y,c.links[c.links.length-1]? =some y/\c.tree.root=y.root/\LkM c (c.links.length-1) y:=by
 have:=h.one;have e:=Za (l:=c.links) (i:=c.links.length-1) Xd;exact⟨_,e,h.root _ e,h.link _ _ e⟩
theorem yGq{a:Type}{l:List a}{i:Nat}{x:a}(h:l[i]? =some x):i<l.length:=(Zk.1 h).1
section
attribute [local irreducible] CoW OpW FlW aeq ajq
variable {G:Nat->Option W}
theorem mDq{c:Type}{a b:List c}{n:Nat}(h:a.length=n)(d:b.length=n)(g:a.take n=b.take n):a=b:=by
 rwa[Zp Xd,Zp Xd] at g
theorem gUq{c:Type}{a b:List c}{i:Nat}{x y:c}(g:a.take i=b.take i)(d:a[i]? =some x)(f:b[i]? =some y)(e:x=y):a.take (i+1)=b.take (i+1):=by
 rw[YA,YA,g,d,f,e]
theorem C9q{c:Type}{a b:List c}{i:Nat}{x y:c}(d:a[i]? =some x)(e:b[i]? =some y)(h:x≠y):¬a=b:=λq=>h (by subst q;exact ZA (d.symm.trans e))
instance(a b:Depo):Decidable (a=b):=Classical.propDecidable _
instance(a b:Tx):Decidable (a=b):=Classical.propDecidable _
instance(a b:RcI):Decidable (a=b):=Classical.propDecidable _
instance(a b:Hdr):Decidable (a=b):=Classical.propDecidable _
theorem lcq{p:Prop} [Decidable p]{b:Bool}(h:p↔b=true):decide p=b:=by
 rw[Bool.eq_iff_iff,YK];exact h
theorem Drq(a b:RcI):eqW cfg 300 74 (rcW a) (rcW b)=some (decide (a=b)):=by
 rw[lcq (p:=a=b) (b:=decide ((Int.ofNat a.kind.toNat)=Int.ofNat b.kind.toNat)&&(decide (a.id=b.id)&&(decide (a.code=b.code)&&true))) (by cases a;cases b;simp only[RcI.mk.injEq,Zd,YK,and_true];exact⟨λh=>⟨by rw[h.1],h.2⟩,λh=>⟨UInt8.toNat_inj.1 (Int.ofNat.inj h.1),h.2⟩⟩)];exact uGq Y Y Y Y (qdq Y Y Y (QVq Y Y) (qdq Y Y Y (yUq Y Y Y Y Y Y _ _ _) (qdq Y Y Y (QVq Y Y) Zrq)))
theorem BFq(l:List Depo)(f:Bool)(j:l.length<=1000000000):PS cfg G 67 [.fz (l.map pdW) 34 f] (.fz (l.map pdW) 34 false):=by
 have e:(l.map pdW).length=l.length:=Ze _;have k:∀l:List Depo,acq (l.map pdW)=true:=yvq c6q
 refine gI 9 Y (λR q=>?_);first|refine z5q Y Y ?_|refine zhq rfl (qDq Y Y Y Y Y (λd o=>?_))
 refine zeq 2 Y ?_;refine gS 0 Y (λb=>?_) (λb=>?_)
 .cases d with
  |false=>cases b
  |true=>
   obtain rfl:l=[]:=List.map_eq_nil_iff.1 (o rfl);exact zHq 7 Y (ySq (fr2:=[(2,.fz [] 34 false)]) Jr ⟨⟨_,rfl,.nilfz⟩,trivial⟩ Y Y)
 .cases l with
  |nil=>
   skip
   exact zHq 6 Y (gM 0 Y (yLq Y Y (jDq Y Y Y Y Y)) (zbq 4 Y (ySq (fr2:=[(2,.fz [] 34 false)]) Jr ⟨⟨_,rfl,.sl Y Y Y Xj⟩,trivial⟩ Y Y)))
  |cons c l=>
   simp only[Zo] at j e;exact zHq 6 Y (gM 0 Y (yLq Y Y (qxq (news:=(c::l).map pdW) (olds:=[]) Y Y Y Y Y Xi (by show(0+((c::l).map pdW).length)*48<=_;rw[e];omega) Yk rfl (by show 0<0+(0+((c::l).map pdW).length)*34;rw[e];omega) Y Y)) (zbq 4 Y (ySq (fr2:=[(2,.fz ((c::l).map pdW) 34 false)]) Jr ⟨⟨_,rfl,.sl rfl (k _) (zqq Xg (ZG _) Qv) Xj⟩,trivial⟩ Y Y)))
theorem oDq(l:List Tx)(f:Bool)(j:l.length<=1000000000):PS cfg G 66 [.fz (l.map txW) 99 f] (.fz (l.map txW) 99 false):=by
 have e:(l.map txW).length=l.length:=Ze _;have k:∀l:List Tx,acq (l.map txW)=true:=yvq qYq
 refine gI 9 Y (λR q=>?_);first|refine z5q Y Y ?_|refine zhq rfl (qDq Y Y Y Y Y (λd o=>?_))
 refine zeq 2 Y ?_;refine gS 0 Y (λb=>?_) (λb=>?_)
 .cases d with
  |false=>cases b
  |true=>
   obtain rfl:l=[]:=List.map_eq_nil_iff.1 (o rfl);exact zHq 7 Y (ySq (fr2:=[(2,.fz [] 99 false)]) Jr ⟨⟨_,rfl,.nilfz⟩,trivial⟩ Y Y)
 .cases l with
  |nil=>
   skip
   exact zHq 6 Y (gM 0 Y (yLq Y Y (jDq Y Y Y Y Y)) (zbq 4 Y (ySq (fr2:=[(2,.fz [] 99 false)]) Jr ⟨⟨_,rfl,.sl Y Y Y Xj⟩,trivial⟩ Y Y)))
  |cons c l=>
   simp only[Zo] at j e;exact zHq 6 Y (gM 0 Y (yLq Y Y (qxq (news:=(c::l).map txW) (olds:=[]) Y Y Y Y Y Xi (by show(0+((c::l).map txW).length)*120<=_;rw[e];omega) Yk rfl (by show 0<0+(0+((c::l).map txW).length)*99;rw[e];omega) Y Y)) (zbq 4 Y (ySq (fr2:=[(2,.fz ((c::l).map txW) 99 false)]) Jr ⟨⟨_,rfl,.sl rfl (k _) (zqq Xg (ZG _) Qv) Xj⟩,trivial⟩ Y Y)))
theorem Dzq(l:List RcI)(f:Bool)(j:l.length<=1000000000):PS cfg G 230 [.fz (l.map rcW) 34 f] (.fz (l.map rcW) 34 false):=by
 have e:(l.map rcW).length=l.length:=Ze _;have k:∀l:List RcI,acq (l.map rcW)=true:=yvq cZq
 refine gI 9 Y (λR q=>?_);first|refine z5q Y Y ?_|refine zhq rfl (qDq Y Y Y Y Y (λd o=>?_))
 refine zeq 2 Y ?_;refine gS 0 Y (λb=>?_) (λb=>?_)
 .cases d with
  |false=>cases b
  |true=>
   obtain rfl:l=[]:=List.map_eq_nil_iff.1 (o rfl);exact zHq 7 Y (ySq (fr2:=[(2,.fz [] 34 false)]) Jr ⟨⟨_,rfl,.nilfz⟩,trivial⟩ Y Y)
 .cases l with
  |nil=>
   skip
   exact zHq 6 Y (gM 0 Y (yLq Y Y (jDq Y Y Y Y Y)) (zbq 4 Y (ySq (fr2:=[(2,.fz [] 34 false)]) Jr ⟨⟨_,rfl,.sl Y Y Y Xj⟩,trivial⟩ Y Y)))
  |cons c l=>
   simp only[Zo] at j e;exact zHq 6 Y (gM 0 Y (yLq Y Y (qxq (news:=(c::l).map rcW) (olds:=[]) Y Y Y Y Y Xi (by show(0+((c::l).map rcW).length)*48<=_;rw[e];omega) Yk rfl (by show 0<0+(0+((c::l).map rcW).length)*34;rw[e];omega) Y Y)) (zbq 4 Y (ySq (fr2:=[(2,.fz ((c::l).map rcW) 34 false)]) Jr ⟨⟨_,rfl,.sl rfl (k _) (zqq Xg (ZG _) Qv) Xj⟩,trivial⟩ Y Y)))
theorem uHq{p:Prop} [Decidable p](h:¬p):W.bool false=W.bool (decide p):=Zc W.bool (Zw h).symm
theorem Xhq{p:Prop} [Decidable p](h:p):W.bool true=W.bool (decide p):=Zc W.bool (Zq h).symm
theorem Dvq{p q:Prop} [Decidable p] [Decidable q](h:q↔p):W.bool (decide q)=W.bool (decide p):=Zc W.bool (YZ.2 h)
theorem fWq(h p:Hdr):PS cfg glK 179 [hdW h,hdW p] (.bool (decide (B5q h p))):=by
 by_cases f:okH p
 .obtain⟨j,r,u,m⟩:=id f;by_cases d:okH h
  .skip
   refine gI 10 Y (λR v=>gC 0 Y (dlq p ⟨j,r,u,m⟩) (gTa 11 Y (gC 2 Y (zrq (w':=.int .i64 0) (xYq h) (by rw[Zl d])) (gTa 0 Y (gWr 6 Y ?_)))));refine gD 0 Y (λg=>?_) (λg=>?_)
   .exact gUe 5 Y (yEq Y Y Y Y (yUq Y Y Y Y Y Y _ _ 250)) yKq (gQ 5 Y (Dvq ⟨λq=>⟨d,f,by simpa using g,q⟩,λq=>q.2.2.2⟩))
   .exact gQ 11 Y (uHq λq=>g (by simpa using q.2.2.1))
  .skip
   exact gI 10 Y (λR v=>gC 0 Y (dlq p ⟨j,r,u,m⟩) (gTa 11 Y (gC 2 Y (zrq (w':=.int .i64 8) (xYq h) (by rw[Zg d])) (gFa 0 Y (gQ 19 Y (uHq λq=>d q.1))))))
 .skip
  exact gI 10 Y (λR v=>gC 0 Y (n4q p f) (gFa 11 Y (gQ 23 Y (uHq λq=>f q.2.1))))
theorem rAq(t:Tree)(r:Int):PS cfg G 181 [tW t,.int .i64 r] (tW ⟨t.nodes,r⟩):=by
 exact gI 20 Y (λR a=>gQa 0 Y)
theorem AWq(d:List Tx)(f:Bool)(F:FuncId)(P:Tx->Prop) [DecidablePred P](D:∀x∈d,PS cfg G F [txW x] (.bool (decide (P x))))(s:cfg.ext F=none)(I:d.length<=1000000000):PE cfg G 184 [.fz (d.map txW) 99 f,.fn F [] []] (λw=>∃i:Int,w= .int .i64 i/\((∃x∈d,P x)↔0<=i)):=by
 have e:(d.map txW).length=d.length:=Ze _;refine gIe 9 Y (λR H=>gZ 0 Y e ?_);refine gLo (α:=Nat) 4 (λi=>i<=d.length/\∀j x,j<i->d[j]? =some x->¬P x) (λi=>[(8,.int .i64 (i:Int))]) [0,1,4,7] (λi=>d.length-i) (0) rfl (⟨Zf _,λj x h=>by omega⟩) (λi B=>?_);obtain⟨E,A⟩:=B;refine gS 6 Y (λC=>?_) (λC=>?_)
 .obtain⟨x,k⟩:∃x,d[i]? =some x:=⟨_,Za Xd⟩
  refine gP 15 Y (zyq (i:=i) Y Y Y Y Y Y Y (ziq txW k)) (zbq 1 Y (bEq Y Y Y s Y Y (D x (Zj k)) Xi Xi (zeq 2 Y ?_)));refine gS 0 Y (λm=>?_) (λm=>?_)
  .exact gO 9 Y (zbq 2 Y (ybq (w':=.int .i64 (i:Int)) Jr rfl (.pur rfl) rfl ⟨_,rfl,λ_=>by omega,λ_=>⟨x,Zj k,m⟩⟩))
  .exact gA 4 Y (i+1) (gAg 2 Y (i+1) (⟨by omega,λj y hj v=>by rcases ZC.1 hj with q|rfl;exact A j y q v;exact ZA (k.symm.trans v)▸m⟩) Xd)
 .refine gO 2 Y (zbq 8 Y ?_)
  exact ybq (w':=.int .i64 (-1)) Jr rfl (.pur rfl) rfl ⟨_,rfl,λ⟨x,k,q⟩=>by
   obtain⟨j,hj⟩:=List.getElem?_of_mem k;exact absurd q (A j x Yq hj),λh=>absurd h Xg⟩
theorem raq(a:List Tx)(f:Bool)(F:FuncId)(P:Tx->Prop) [DecidablePred P](d:∀x∈a,PS cfg G F [txW x] (.bool (decide (P x))))(c:cfg.ext F=none)(e:a.length<=1000000000) [Decidable (∃x∈a,P x)]:PS cfg G 117 [.fz (a.map txW) 99 f,.fn F [] []] (.bool (decide (∃x∈a,P x))):=by
 refine gI 9 Y (λR h=>?_);refine gE 0 Y (AWq a f F P d c e) ?_;rintro w g ⟨i,rfl,hi⟩;refine gU 0 Y ?_;exact gQ 4 Y Je
theorem oGq(x:Tx)(a:x.ok):PS cfg glK 227 [txW x] (.bool (decide (x.sign≠xHq x))):=by
 by_cases h:x.sign=xHq x
 .skip
  exact gI 9 Y (λR c=>gC 0 Y (zrq (w':=.int .i64 0) (qRq x a) (by rw[Zl h])) (gFa 0 Y (gQ 4 Y (uHq λq=>q h))))
 .skip
  exact gI 9 Y (λR c=>gC 0 Y (zrq (w':=.int .i64 110) (qRq x a) (by rw[Zg h])) (gTa 0 Y (gQ 4 Y (Xhq h))))
theorem sMq(a b:Nat):W.int .i64 (match ltI (a:Int) (b:Int) with|true=>(b:Int)|false=>(a:Int))=W.int .i64 ((max a b:Nat):Int):=by
 congr 1
 by_cases h:(a:Int)<(b:Int)
 .rw[ltI_iff.2 h,Nat.max_eq_right Xd]
 .rw[ltI_not.2 h,Nat.max_eq_left Xd]
theorem lzq(ds:List Depo)(xs:List Tx)(f g:Bool)(hx:∀x∈xs,x.ok)(hd:ds.length<=140737488351232)(hn:xs.length<=140737488351232):PS cfg glK 180 [Cuq ds xs f g] (.bool (decide (t8q ds xs))):=by
 have e1:(ds.map pdW).length=ds.length:=Ze _;have e2:(xs.map txW).length=xs.length:=Ze _;by_cases hm:ds.length<=16/\xs.length<=16
 .have hc:=raq (G:=glK) xs g 227 (λx=>x.sign≠xHq x) (λx h=>oGq x (hx x h)) rfl Xd;by_cases hs:∃x∈xs,x.sign≠xHq x
  .exact gI 15 Y (λR k0=>gZ 0 Y e1 (gZ 2 Y e2 (gV (w':=.int .i64 ((max ds.length xs.length:Nat):Int)) 0 Y (sMq _ _) (gT 0 Y (Zc not (ltI_not.2 Xd)) (gC 4 Y (zrq (w':=.bool true) (hc) (by rw[Zq (hs)])) (gQ 6 Y (uHq λq=>by obtain⟨x,h1,h2⟩:=hs;exact h2 (q.2.2 x h1))))))))
  .exact gI 15 Y (λR k0=>gZ 0 Y e1 (gZ 2 Y e2 (gV (w':=.int .i64 ((max ds.length xs.length:Nat):Int)) 0 Y (sMq _ _) (gT 0 Y (Zc not (ltI_not.2 Xd)) (gC 4 Y (zrq (w':=.bool false) (hc) (by rw[Zw (hs)])) (gQ 6 Y (Xhq ⟨hm.1,hm.2,λx h=>Classical.not_not.1 λq=>hs ⟨x,h,q⟩⟩)))))))
 .exact gI 15 Y (λR k0=>gZ 0 Y e1 (gZ 2 Y e2 (gV (w':=.int .i64 ((max ds.length xs.length:Nat):Int)) 0 Y (sMq _ _) (gF 0 Y (Zc not (ltI_iff.2 Xd)) (gQ 11 Y (uHq λq=>hm ⟨q.1,q.2.1⟩))))))
def BLq:W:=.agg 2 [.nils,.nils]
def lkZ:W:=.agg 102 [hdW hdZ,.int .i64 0,BLq,.nils]
@[simp] theorem sQq:aaq lkZ=true:=by simp[lkZ,BLq,aaq,acq]
def lkA(l:List Lk)(i:Nat):W:=match l[i]? with
 |some x=>lkG x
 |none=>lkZ
def c5q(l:List Lk):Nat->W
 |0=>lkZ
 |i+1=>lkA l i
@[simp] theorem Dcq(l:List Lk)(i:Nat):aaq (lkA l i)=true:=by unfold lkA;split<;>simp
@[simp] theorem eqq(l:List Lk)(i:Nat):aaq (c5q l i)=true:=by cases i<;>simp[c5q]
def mgq(l:List Lk)(i:Nat):List W:=[lkA l i,c5q l i]
theorem tmq(l:List Lk){n:Nat}:∀y∈List.range n,acq (mgq l y)=true/\(mgq l y).length=2:=λy _=>⟨by simp[mgq,acq],rfl⟩
theorem eiq{n i:Nat}(h:i<n):(List.range n)[i]? =some i:=by rw[List.getElem?_range h]
theorem pKq{l:List Lk}{i:Nat}{x:Lk}(h:l[i]? =some x):lkA l i=lkG x:=by unfold lkA;rw[h]
theorem tHq(l:List Lk)(f:Bool):PS cfg G 178 [.fz (l.map lkG) 102 f] (.fn 226 [] [.fel (.fz (l.map lkG) 102 f)]):=by
 have b:=ZZq l;refine gI 13 Y (λR d=>?_);refine ySq (fr2:=[(2,_)]) Xo ?_ Y Y
 (repeat (first|exact trivial|refine And.symm ⟨?_,_,rfl,?_⟩))<;>(repeat (first|exact .nil|refine .cons ?_ ?_|refine .fn ?_ ?_|(refine y5q Y ?_ rfl;(first|rfl|(focus (simp;done))))|(refine .sl Y ?_ rfl Xj;(first|rfl|(focus (simp;done))))|(refine .pur ?_;(first|rfl|(focus (simp;done))))|refine .agg ?_|refine .arr ?_|refine .tup ?_))
theorem niq(l:List Lk)(i:Nat):∃a b c d,c5q l i= .agg 102 [a,b,c,d]:=by
 cases i with
 |zero=>exact⟨_,_,_,_,rfl⟩
 |succ i=>
  show∃a b c d,lkA l i=_
  unfold lkA;split<;>exact⟨_,_,_,_,rfl⟩
theorem oFq(l:List Lk)(f:Bool)(w:l.length<=4611686018427387903):quq cfg G 226 [.fel (.fz (l.map lkG) 102 f)] ((List.range l.length).map (mgq l)):=by
 have e:(l.map lkG).length=l.length:=Ze _;refine xdq (fn:=Tryz.f226) Y Y Y (Yb rfl) (λL E R j H=>?_);refine zCq 8 Y (gZ 0 Y e (zbq 4 Y (luq (jYq (b:=0) (w':=lkZ) rfl (.agg (.cons (.agg (vR (.cons zYq (.cons zYq (.cons zYq (.cons (.pur rfl) .nil)))))) (vR (vR (.cons (.pur rfl) .nil)))))) ?_)));refine fcq (α:=Nat×Res) (λp=>p.1<=l.length/\Yl cfg G L E (((List.range l.length).drop p.1).map (mgq l)) p.2) (λp=>[(8,.int .i64 (p.1:Int))]) [(0,_),(3,_),(6,_),(7,_)] (λp=>[(0,142,c5q l p.1)]) (λp=>p.2) (λp=>l.length-p.1) ((0,R)) ⟨rfl,rfl,rfl,rfl,trivial⟩ (⟨Zf _,j⟩) ⟨rfl,trivial⟩ Y Y (λp C=>?_);obtain⟨i,R⟩:=p;obtain⟨D,j⟩:=C;simp only at D j⊢;refine zCq 6 Y ?_;refine gS 0 Y (λF=>?_) (λF=>?_)
 .have k:i<l.length:=by omega
  obtain⟨x,B⟩:∃x,l[i]? =some x:=⟨_,Za k⟩
  rw[vJq (eiq k),ZD] at j;have A:=pKq B;obtain⟨a,b,c,d,q⟩:=niq l i;have I:aaq (.agg 102 [a,b,c,d])=true:=q▸eqq l i
  rw[show mgq l i=[lkG x,.agg 102 [a,b,c,d]] by unfold mgq;rw[A,q]] at j;rw[q];refine gP 6 Y (zyq (i:=i) Y Y Y Y Y Y Y (ziq lkG B)) ?_;refine gSo 11 Y (qWq Y Y Y (j) (λb R1 w=>?_));refine gS 3 Y (λy=>?_) (λy=>?_)
  .cases b with
   |true=>cases y
   |false=>
    exact zHq 4 Y (qQq Xj (zRq 1 Y (j7q Jr rfl w)))
  .cases b with
   |false=>exact absurd rfl y
   |true=>
    refine zHq 9 Y (gA 0 Y (i+1) (zbq 2 Y ?_));rw[show lkG x=c5q l (i+1) from A.symm];exact Kzq ((i+1,R1)) (⟨k,w⟩) Xu (Zf _) ⟨rfl,trivial⟩ ⟨rfl,rfl,rfl,rfl,trivial⟩ Xh Xh Xd Xk Xt rfl
 .refine zbq 2 Y (qQq Xj (zRq 1 Y ?_));obtain rfl:i=l.length:=by omega
  rw[ZY Xi] at j;exact j7q (.inl rfl) rfl j
structure Ln where
 (who:Dig) (txs:List Tx)
def lnW(l:Ln):W:=.agg 33 [dW l.who,.fz (l.txs.map txW) 99 false]
@[simp] theorem jyq(l:Ln):aaq (lnW l)=true:=by simp[lnW,aaq,acq]
@[simp] theorem qEq(l:List Ln):acq (l.map lnW)=true:=yvq jyq l
abbrev Shd:=List Ln
def shdW(s:Shd):W:=.agg 1 [.fz (s.map lnW) 33 false]
@[simp] theorem uYq(s:Shd):aaq (shdW s)=true:=by simp[shdW,aaq,acq]
@[simp] theorem k1q(l:List Shd):acq (l.map shdW)=true:=yvq uYq l
def plW(l:List Shd):W:=.fz (l.map shdW) 1 false
@[simp] theorem jwq(l:List Shd):aaq (plW l)=true:=(k1q l:acq (l.map shdW)=true)
def gdq(x:Tx)(k:Dig):Prop:=x.sign=xHq x/\akq x.pub=k
instance(x:Tx)(k:Dig):Decidable (gdq x k):=Classical.propDecidable _
theorem bDq(x:Tx)(g:x.ok)(k:Dig):PS cfg glK 228 [txW x,dW k] (.bool (decide (gdq x k))):=by
 by_cases d:x.sign=xHq x
 .by_cases f:akq x.pub=k
  .skip
   exact gI 10 Y (λR h=>gC 0 Y (zrq (w':=.int .i64 0) (qRq x g) (by rw[Zl d])) (gT 0 Y (eqI_iff.2 (rfl)) (gC 2 Y (JTq x) (zbq 1 Y (k6q (w':=.bool true) rfl (yEq Y Y Y Y (yUq Y Y Y Y Y Y (akq x.pub) k 250)) (by rw[Zq f]) (zWq 5 Y (gQ 0 Y (Xhq ⟨d,f⟩))))))))
  .skip
   exact gI 10 Y (λR h=>gC 0 Y (zrq (w':=.int .i64 0) (qRq x g) (by rw[Zl d])) (gT 0 Y (eqI_iff.2 (rfl)) (gC 2 Y (JTq x) (zbq 1 Y (k6q (w':=.bool false) rfl (yEq Y Y Y Y (yUq Y Y Y Y Y Y (akq x.pub) k 250)) (by rw[Zw f]) (zWq 5 Y (gQ 0 Y (uHq λq=>f q.2))))))))
 .skip
  exact gI 10 Y (λR h=>gC 0 Y (zrq (w':=.int .i64 110) (qRq x g) (by rw[Zg d])) (gF 0 Y (eqI_not.2 Xg) (gQ 10 Y (uHq λq=>d q.1))))
def LnM(l:Ln):Prop:=l.txs.length<=256/\∀(i:Nat) x,l.txs[i]? =some x->gdq x l.who/\∀y,0<i->l.txs[i-1]? =some y->y.nonce<x.nonce
instance(l:Ln):Decidable (LnM l):=Classical.propDecidable _
theorem k2q(l:Ln)(F:∀x∈l.txs,x.ok)(M:l.txs.length<=4611686018427387903):PS cfg glK 182 [lnW l] (.int .i64 (if LnM l then 0 else 8)):=by
 have e:(l.txs.map txW).length=l.txs.length:=Ze _;by_cases C:l.txs.length<=256
 .skip
  refine gI 11 Y (λR K=>gZ 0 Y e (gF 0 Y (ltI_not.2 Xd) (gZ 10 Y e ?_)));refine gLo (α:=Nat) 4 (λi=>i<=l.txs.length/\∀(j:Nat) x,j<i->l.txs[j]? =some x->gdq x l.who/\∀y,0<j->l.txs[j-1]? =some y->y.nonce<x.nonce) (λi=>[(12,.int .i64 (i:Int))]) [1,2,10,11] (λi=>l.txs.length-i) (0) rfl (⟨Zf _,λj x h=>by omega⟩) (λi D=>?_);obtain⟨L,B⟩:=D;refine gS 6 Y (λH=>?_) (λH=>?_)
  .obtain⟨x,d⟩:∃x,l.txs[i]? =some x:=⟨_,Za Xd⟩
   have f:=F x (Zj d);skip
   by_cases ho:gdq x l.who
   .rcases YS i with rfl|J
    .exact gP 7 Y (zyq (i:=0) Y Y Y Y Y Y Y (ziq txW d)) (gC 11 Y (zrq (w':=.bool true) (bDq x f l.who) Yt) (gF 3 Y (ltI_not.2 Xd) (gWr 20 Y (gAg 2 Y (0+1) (⟨by omega,λj z hj u=>by have E:j=0:=Xd;subst E;have:=ZA (d.symm.trans u);subst this;exact⟨ho,λy h=>absurd h Xg⟩⟩) Xd))))
    .obtain⟨y,m⟩:∃y,l.txs[i-1]? =some y:=⟨_,Za Xd⟩
     by_cases A:y.nonce<x.nonce
     .exact gP 7 Y (zyq (i:=i) Y Y Y Y Y Y Y (ziq txW d)) (gC 11 Y (zrq (w':=.bool true) (bDq x f l.who) Yt) (gT 3 Y (ltI_iff.2 Xd) (gA 4 Y (i-1) (gP 0 Y (zyq (i:=i-1) Y Y Y Y Y Y Y (ziq txW m)) (gF 4 Y (Zc not (ltI_iff.2 Xd)) (gWr 9 Y (gAg 2 Y (i+1) (⟨by omega,λj z hj u=>by rcases ZC.1 hj with q|rfl;exact B j z q u;have:=ZA (d.symm.trans u);subst this;exact⟨ho,λw _ I=>by have:=ZA (m.symm.trans I);subst this;exact A⟩⟩) Xd)))))))
     .exact gP 7 Y (zyq (i:=i) Y Y Y Y Y Y Y (ziq txW d)) (gC 11 Y (zrq (w':=.bool true) (bDq x f l.who) Yt) (gT 3 Y (ltI_iff.2 Xd) (gA 4 Y (i-1) (gP 0 Y (zyq (i:=i-1) Y Y Y Y Y Y Y (ziq txW m)) (gT 4 Y (Zc not (ltI_not.2 Xd)) (gO 13 Y (gQ 2 Y (by rw[Zg λq:LnM l=>A ((q.2 i x d).2 y J m)]))))))))
   .exact gP 7 Y (zyq (i:=i) Y Y Y Y Y Y Y (ziq txW d)) (gC 11 Y (zrq (w':=.bool false) (bDq x f l.who) (by rw[Zw (ho)])) (gO 28 Y (gQ 2 Y (by rw[Zg λq:LnM l=>ho (q.2 i x d).1]))))
  .have yes:LnM l:=⟨C,λj x hj=>B j x Yq hj⟩;exact gO 2 Y (gQ 8 Y Yp)
 .skip
  exact gI 11 Y (λR K=>gZ 0 Y e (gT 0 Y (ltI_iff.2 Xd) (gQ 10 Y (by rw[Zg λq:LnM l=>C q.1]))))
structure OkL(l:Ln):Prop where
 txs:∀x∈l.txs,x.ok
 len:l.txs.length<=4611686018427387903
def ShM(s:Shd):Prop:=∀(i:Nat) l,s[i]? =some l->(l.txs.length≠0/\LnM l)/\∀p,0<i->s[i-1]? =some p->yrq p.who l.who=true
instance(s:Shd):Decidable (ShM s):=Classical.propDecidable _
theorem vZq(s:Shd)(K:∀l∈s,OkL l)(N:s.length<=4611686018427387903):PS cfg glK 114 [shdW s] (.int .i64 (if ShM s then 0 else 8)):=by
 have e:(s.map lnW).length=s.length:=Ze _;refine gI 11 Y (λR O=>gZ 0 Y e ?_);refine gLo (α:=Nat) 4 (λi=>i<=s.length/\∀(j:Nat) l,j<i->s[j]? =some l->(l.txs.length≠0/\LnM l)/\∀p,0<j->s[j-1]? =some p->yrq p.who l.who=true) (λi=>[(8,.int .i64 (i:Int))]) [1,2,6,7] (λi=>s.length-i) (0) rfl (⟨Zf _,λj x h=>by omega⟩) (λi F=>?_);obtain⟨M,E⟩:=F;refine gS 6 Y (λL=>?_) (λL=>?_)
 .obtain⟨l,d⟩:∃l,s[i]? =some l:=⟨_,Za Xd⟩
  obtain⟨m,u⟩:=K l (Zj d);have k:(l.txs.map txW).length=l.txs.length:=Ze _;skip
  by_cases C:l.txs.length=0
  .exact gP 7 Y (zyq (i:=i) Y Y Y Y Y Y Y (ziq lnW d)) (gZ 10 Y k (gT 0 Y (eqI_iff.2 Xd) (gO 33 Y (gQ 2 Y (by rw[Zg λq:ShM s=>(q i l d).1.1 C])))))
  .by_cases hm:LnM l
   .rcases YS i with rfl|I
    .exact gP 7 Y (zyq (i:=0) Y Y Y Y Y Y Y (ziq lnW d)) (gZ 10 Y k (gF 0 Y (eqI_not.2 Xd) (gC 2 Y (zrq (w':=.int .i64 0) (k2q l m u) Yc) (gF 0 Y zN (gF 3 Y (ltI_not.2 Xd) (gWr 21 Y (gAg 2 Y (0+1) (⟨by omega,λj z hj A=>by have J:j=0:=Xd;subst J;have:=ZA (d.symm.trans A);subst this;exact⟨⟨C,hm⟩,λy h=>absurd h Xg⟩⟩) Xd)))))))
    .obtain⟨p,f⟩:∃y,s[i-1]? =some y:=⟨_,Za Xd⟩
     by_cases B:yrq p.who l.who=true
     .exact gP 7 Y (zyq (i:=i) Y Y Y Y Y Y Y (ziq lnW d)) (gZ 10 Y k (gF 0 Y (eqI_not.2 Xd) (gC 2 Y (zrq (w':=.int .i64 0) (k2q l m u) Yc) (gF 0 Y zN (gT 3 Y (ltI_iff.2 Xd) (gA 4 Y (i-1) (gP 0 Y (zyq (i:=i-1) Y Y Y Y Y Y Y (ziq lnW f)) (gC 4 Y (zrq (w':=.bool true) (Xpq p.who l.who) (by rw[B])) (gWr 10 Y (gAg 2 Y (i+1) (⟨by omega,λj z hj A=>by rcases ZC.1 hj with q|rfl;exact E j z q A;have:=ZA (d.symm.trans A);subst this;exact⟨⟨C,hm⟩,λw _ H=>by have:=ZA (f.symm.trans H);subst this;exact B⟩⟩) Xd))))))))))
     .have D:yrq p.who l.who=false:=by simpa using B
      exact gP 7 Y (zyq (i:=i) Y Y Y Y Y Y Y (ziq lnW d)) (gZ 10 Y k (gF 0 Y (eqI_not.2 Xd) (gC 2 Y (zrq (w':=.int .i64 0) (k2q l m u) Yc) (gF 0 Y zN (gT 3 Y (ltI_iff.2 Xd) (gA 4 Y (i-1) (gP 0 Y (zyq (i:=i-1) Y Y Y Y Y Y Y (ziq lnW f)) (gC 4 Y (zrq (w':=.bool false) (Xpq p.who l.who) (by rw[D])) (gO 14 Y (gQ 2 Y (by rw[Zg λq:ShM s=>B ((q i l d).2 p I f)])))))))))))
   .exact gP 7 Y (zyq (i:=i) Y Y Y Y Y Y Y (ziq lnW d)) (gZ 10 Y k (gF 0 Y (eqI_not.2 Xd) (gC 2 Y (zrq (w':=.int .i64 8) (k2q l m u) (by rw[Zg hm])) (gT 0 Y (Zc not (eqI_not.2 Xg)) (gO 29 Y (gQ 2 Y (by rw[Zg λq:ShM s=>hm (q i l d).1.2])))))))
 .have yes:ShM s:=λj x hj=>E j x Yq hj
  exact gO 2 Y (gQ 8 Y Yp)
structure Eve where
 (number:Int) (roll:Bool) (hdr:Hdr)
def eveW(e:Eve):W:=.agg 100 [.int .i64 e.number,.bool e.roll,hdW e.hdr]
@[simp] theorem eXq(e:Eve):aaq (eveW e)=true:=by simp[eveW,aaq,acq]
@[simp] theorem Crq(l:List Eve):acq (l.map eveW)=true:=yvq eXq l
structure Itm where
 (gap:Bool) (ev:Eve)
def aiq(x:Itm):W:=.agg 101 [.bool x.gap,eveW x.ev]
@[simp] theorem ygq(x:Itm):aaq (aiq x)=true:=by simp[aiq,aaq,acq]
@[simp] theorem eJq(l:List Itm):acq (l.map aiq)=true:=yvq ygq l
structure Tp where
 (items:List Itm) (lost:Bool)
def tpW(t:Tp):W:=.agg 2 [.fz (t.items.map aiq) 101 false,.bool t.lost]
@[simp] theorem Kpq(t:Tp):aaq (tpW t)=true:=by simp[tpW,aaq,acq]
structure Sb where
 (id beg:Int) (tap:Tp)
def sbW(s:Sb):W:=.agg 4 [.int .i64 s.id,.int .i64 s.beg,tpW s.tap]
@[simp] theorem sbW_pur(s:Sb):aaq (sbW s)=true:=by simp[sbW,aaq,acq]
@[simp] theorem ZUq(l:List Sb):acq (l.map sbW)=true:=yvq sbW_pur l
structure Hb where
 (next:Int) (subs:List Sb)
def hbW(h:Hb):W:=.agg 2 [.int .i64 h.next,.fz (h.subs.map sbW) 4 false]
@[simp] theorem xeq(h:Hb):aaq (hbW h)=true:=by simp[hbW,aaq,acq]
def mlq(e:Eve):Prop:=(0<=e.number/\e.number<1073741824)/\okH e.hdr
instance(e:Eve):Decidable (mlq e):=Classical.propDecidable _
theorem K8q(e:Eve):PS cfg G 110 [eveW e] (.bool (decide (mlq e))):=by
 by_cases g:0<=e.number
 .by_cases h:e.number<1073741824
  .by_cases d:okH e.hdr
   .skip
    exact gI 10 Y (λR f=>gT 0 Y (Zc not (ltI_not.2 Xd)) (gT 3 Y (ltI_iff.2 Xd) (gC 4 Y (zrq (w':=.int .i64 0) (xYq e.hdr) (by rw[Zl d])) (gT 0 Y (eqI_iff.2 (rfl)) (gQ 5 Y (Xhq ⟨⟨g,h⟩,d⟩))))))
   .skip
    exact gI 10 Y (λR f=>gT 0 Y (Zc not (ltI_not.2 Xd)) (gT 3 Y (ltI_iff.2 Xd) (gC 4 Y (zrq (w':=.int .i64 8) (xYq e.hdr) (by rw[Zg d])) (gF 0 Y (eqI_not.2 Xg) (gQ 5 Y (uHq λq=>d q.2))))))
  .skip
   exact gI 10 Y (λR f=>gT 0 Y (Zc not (ltI_not.2 Xd)) (gF 3 Y (ltI_not.2 Xd) (gQ 11 Y (uHq λq=>h q.1.2))))
 .skip
  exact gI 10 Y (λR f=>gF 0 Y (Zc not (ltI_iff.2 Xd)) (gQ 15 Y (uHq λq=>g q.1.1)))
theorem ucq(n:Int):PS cfg G 120 [.int .i64 n] (.bool (decide (0<=n/\n<1073741824))):=by
 by_cases d:0<=n
 .by_cases f:n<1073741824
  .skip
   exact gI 8 Y (λR g=>gT 0 Y (Zc not (ltI_not.2 Xd)) (gT 2 Y (ltI_iff.2 Xd) (gQ 5 Y (Xhq ⟨d,f⟩))))
  .skip
   exact gI 8 Y (λR g=>gT 0 Y (Zc not (ltI_not.2 Xd)) (gF 2 Y (ltI_not.2 Xd) (gQ 5 Y (uHq λq=>f q.2))))
 .skip
  exact gI 8 Y (λR g=>gF 0 Y (Zc not (ltI_iff.2 Xd)) (gQ 8 Y (uHq λq=>d q.1)))
theorem BDq(l:List Itm)(f:Bool)(j:l.length<=1000000000):PS cfg G 177 [.fz (l.map aiq) 101 f] (.fz (l.map aiq) 101 false):=by
 have e:(l.map aiq).length=l.length:=Ze _;have k:∀l:List Itm,acq (l.map aiq)=true:=yvq ygq
 refine gI 9 Y (λR q=>?_);first|refine z5q Y Y ?_|refine zhq rfl (qDq Y Y Y Y Y (λd o=>?_))
 refine zeq 2 Y ?_;refine gS 0 Y (λb=>?_) (λb=>?_)
 .cases d with
  |false=>cases b
  |true=>
   obtain rfl:l=[]:=List.map_eq_nil_iff.1 (o rfl);exact zHq 7 Y (ySq (fr2:=[(2,.fz [] 101 false)]) Jr ⟨⟨_,rfl,.nilfz⟩,trivial⟩ Y Y)
 .cases l with
  |nil=>
   skip
   exact zHq 6 Y (gM 0 Y (yLq Y Y (jDq Y Y Y Y Y)) (zbq 4 Y (ySq (fr2:=[(2,.fz [] 101 false)]) Jr ⟨⟨_,rfl,.sl Y Y Y Xj⟩,trivial⟩ Y Y)))
  |cons c l=>
   simp only[Zo] at j e;exact zHq 6 Y (gM 0 Y (yLq Y Y (qxq (news:=(c::l).map aiq) (olds:=[]) Y Y Y Y Y Xi (by show(0+((c::l).map aiq).length)*136<=_;rw[e];omega) Yk rfl (by show 0<0+(0+((c::l).map aiq).length)*101;rw[e];omega) Y Y)) (zbq 4 Y (ySq (fr2:=[(2,.fz ((c::l).map aiq) 101 false)]) Jr ⟨⟨_,rfl,.sl rfl (k _) (zqq Xg (ZG _) Qv) Xj⟩,trivial⟩ Y Y)))
theorem BEq(l:List Eve)(f:Bool)(j:l.length<=1000000000):PS cfg G 68 [.fz (l.map eveW) 100 f] (.fz (l.map eveW) 100 false):=by
 have e:(l.map eveW).length=l.length:=Ze _;have k:∀l:List Eve,acq (l.map eveW)=true:=yvq eXq
 refine gI 9 Y (λR q=>?_);first|refine z5q Y Y ?_|refine zhq rfl (qDq Y Y Y Y Y (λd o=>?_))
 refine zeq 2 Y ?_;refine gS 0 Y (λb=>?_) (λb=>?_)
 .cases d with
  |false=>cases b
  |true=>
   obtain rfl:l=[]:=List.map_eq_nil_iff.1 (o rfl);exact zHq 7 Y (ySq (fr2:=[(2,.fz [] 100 false)]) Jr ⟨⟨_,rfl,.nilfz⟩,trivial⟩ Y Y)
 .cases l with
  |nil=>
   skip
   exact zHq 6 Y (gM 0 Y (yLq Y Y (jDq Y Y Y Y Y)) (zbq 4 Y (ySq (fr2:=[(2,.fz [] 100 false)]) Jr ⟨⟨_,rfl,.sl Y Y Y Xj⟩,trivial⟩ Y Y)))
  |cons c l=>
   simp only[Zo] at j e;exact zHq 6 Y (gM 0 Y (yLq Y Y (qxq (news:=(c::l).map eveW) (olds:=[]) Y Y Y Y Y Xi (by show(0+((c::l).map eveW).length)*128<=_;rw[e];omega) Yk rfl (by show 0<0+(0+((c::l).map eveW).length)*100;rw[e];omega) Y Y)) (zbq 4 Y (ySq (fr2:=[(2,.fz ((c::l).map eveW) 100 false)]) Jr ⟨⟨_,rfl,.sl rfl (k _) (zqq Xg (ZG _) Qv) Xj⟩,trivial⟩ Y Y)))
theorem gLq(t:Tp)(a:t.items.length<=1000000000):PS cfg G 112 [tpW t] (tpW t):=by
 have b:=eJq t.items;exact gIv 10 Y (λR c=>gC 0 Y (BDq t.items false a) (zbq 11 Y (y0q Jr rfl (.pur (Kpq t)))))
theorem iqq(l:Ln)(a:l.txs.length<=1000000000):PS cfg G 189 [lnW l] (lnW l):=by
 have b:=jnq l.txs;exact gIv 12 Y (λR c=>gC 0 Y (oDq l.txs false a) (zbq 5 Y (y0q Jr rfl (.pur (jyq l)))))
def lnA(l:List Ln):W:=.arr (l.length*33) 33 (l.map lnW)
theorem KUq(l:List Ln):aaq (lnA l)=true:=(yvq jyq l:acq (l.map lnW)=true)
theorem irq(l:List Ln)(f:Bool)(y:l.length<=1000000000):zUq cfg G 188 0 [.fz (l.map lnW) 33 f] [] λw u q=>
  (l=[]/\w= .nils/\u=[]/\q=0)\/(w= .sl 0 0 0 l.length 33 none/\u=[(0,240,lnA l)]/\q=1):=by
 intro R;have e:(l.map lnW).length=l.length:=Ze _;have d:=KUq l;refine gIs 9 Y (λA=>?_);first|refine z5q Y Y ?_|refine zhq rfl (qDq Y Y Y Y Y (λv x=>?_))
 refine zeq 2 Y ?_;refine gS 0 Y (λj=>?_) (λj=>?_)
 .cases v with
  |false=>cases j
  |true=>
   obtain rfl:l=[]:=List.map_eq_nil_iff.1 (x rfl);exact zHq 7 Y (fin Jr Ent.refl rfl ⟨rfl,.inl ⟨rfl,rfl,rfl,rfl⟩⟩)
 .cases l with
  |nil=>
   skip
   exact zHq 6 Y (gM 0 Y (yLq Y Y (jDq Y Y Y Y Y)) (zbq 4 Y (fin Jr Ent.refl rfl ⟨rfl,.inr ⟨rfl,rfl,rfl⟩⟩)))
  |cons c l=>
   refine zHq 6 Y (gM 0 Y (yLq Y Y (qxq (len:=0) (news:=(c::l).map lnW) (olds:=[]) (k:=mAq) Y Y Y Y Y Xi (by show(0+((c::l).map lnW).length)*56<=_;rw[e];omega) Yk rfl (by show 0<0+(0+((c::l).map lnW).length)*33;rw[e];simp only[Zo];omega) Y Y)) (zbq 4 Y ?_));refine fin Jr (yiq (b:=0) (k:=1) (fr2:=[(2,.sl 0 0 0 (c::l).length 33 none)]) (hp2:=[(0,240,lnA (c::l))]) Xd Xd Ql ⟨⟨?_,rfl⟩,trivial⟩ ⟨⟨by omega,?_,zaq d⟩,trivial⟩ Xi) rfl ⟨rfl,.inr ⟨rfl,rfl,rfl⟩⟩
   .show some (W.sl 1 0 0 (0+((c::l).map lnW).length) 33 none)=some (W.sl 1 0 0 (c::l).length 33 none);rw[e,ZG]
   .rw[zdq d];show some (240,W.arr ((0+((c::l).map lnW).length)*33) 33 ([]++(c::l).map lnW))=some (240,lnA (c::l));rw[e,ZG];rfl
def sbA(l:List Sb):W:=.arr (l.length*4) 4 (l.map sbW)
theorem jGq(l:List Sb):aaq (sbA l)=true:=(yvq sbW_pur l:acq (l.map sbW)=true)
theorem pqq(l:List Sb)(f:Bool)(y:l.length<=1000000000):zUq cfg G 123 0 [.fz (l.map sbW) 4 f] [] λw u q=>
  (l=[]/\w= .nils/\u=[]/\q=0)\/(w= .sl 0 0 0 l.length 4 none/\u=[(0,247,sbA l)]/\q=1):=by
 intro R;have e:(l.map sbW).length=l.length:=Ze _;have d:=jGq l;refine gIs 9 Y (λA=>?_);first|refine z5q Y Y ?_|refine zhq rfl (qDq Y Y Y Y Y (λv x=>?_))
 refine zeq 2 Y ?_;refine gS 0 Y (λj=>?_) (λj=>?_)
 .cases v with
  |false=>cases j
  |true=>
   obtain rfl:l=[]:=List.map_eq_nil_iff.1 (x rfl);exact zHq 7 Y (fin Jr Ent.refl rfl ⟨rfl,.inl ⟨rfl,rfl,rfl,rfl⟩⟩)
 .cases l with
  |nil=>
   skip
   exact zHq 6 Y (gM 0 Y (yLq Y Y (jDq Y Y Y Y Y)) (zbq 4 Y (fin Jr Ent.refl rfl ⟨rfl,.inr ⟨rfl,rfl,rfl⟩⟩)))
  |cons c l=>
   refine zHq 6 Y (gM 0 Y (yLq Y Y (qxq (len:=0) (news:=(c::l).map sbW) (olds:=[]) (k:=rLq) Y Y Y Y Y Xi (by show(0+((c::l).map sbW).length)*48<=_;rw[e];omega) Yk rfl (by show 0<0+(0+((c::l).map sbW).length)*4;rw[e];simp only[Zo];omega) Y Y)) (zbq 4 Y ?_));refine fin Jr (yiq (b:=0) (k:=1) (fr2:=[(2,.sl 0 0 0 (c::l).length 4 none)]) (hp2:=[(0,247,sbA (c::l))]) Xd Xd Ql ⟨⟨?_,rfl⟩,trivial⟩ ⟨⟨by omega,?_,zaq d⟩,trivial⟩ Xi) rfl ⟨rfl,.inr ⟨rfl,rfl,rfl⟩⟩
   .show some (W.sl 1 0 0 (0+((c::l).map sbW).length) 4 none)=some (W.sl 1 0 0 (c::l).length 4 none);rw[e,ZG]
   .rw[zdq d];show some (247,W.arr ((0+((c::l).map sbW).length)*4) 4 ([]++(c::l).map sbW))=some (247,sbA (c::l));rw[e,ZG];rfl
end
theorem bqq{e:Ctx}{x:W}{n:Nat}{v:V}(g:x.size=n)(f:x.isAgg=true):RV e (.arr n n [x]) v↔RV e x v:=by
 subst g;constructor
 .rintro⟨d,b⟩;simp only[RS,RSL] at b;obtain⟨b,_,c,_⟩:=b;rw[Zp Xd] at c;exact⟨f.trans d,c⟩
 .rintro⟨d,b⟩;have c:=q7q b;refine⟨f.symm.trans d,?_⟩;simp only[RS,RSL];exact⟨c,by simp,by rw[Zp Xd];exact b,by rw[ZY Xd]⟩
theorem Aeq{C:Cfg}{G:Nat->Option W}{f:FuncId}{x r:W}{n:Nat}(g:x.size=n)(m:x.isAgg=true)(j:PS C G f [x] r):PS C G f [.arr n n [x]] r:=λR i X d l s c=>
 j R i X d l s (by
  simp only[RVL] at c⊢;obtain⟨v,b,e,h,k⟩:=c;exact⟨v,b,e,(bqq g m).1 h,k⟩)
section
variable {C:Cfg} {G:Nat->Option W} {o:Oper} {fr:FrW} {hp:HpW} {nw:Nat} {R:Res} {post:W->HpW->Nat->Res->Option EvW->Prop}
theorem bYq{b:Nat}{x y:TypeId×W}:∀{hp:HpW},apq (apq hp b x) b y=apq hp b y
 |[]=>rfl
 |(k,w)::l=>by
  simp only[apq];cases q:Nat.beq k b with
  |true=>simp only[apq,q]
  |false=>simp only[apq,q,bYq]
theorem d4q{b:Nat}{ty:TypeId}{w1 w2:W}(V:∀A v,RV A w1 v->RV A w2 v)(h:aeq C G o fr hp nw R λw f B R' ev=>hget f b=some (ty,w1)/\post w (apq f b (ty,w2)) B R' ev):aeq C G o fr hp nw R post:=λA X D E s S=>by
 obtain⟨n,w,f,R',ev,v,L,Γ',X',⟨H,Z⟩,h2,M,J,P,g,O,hv⟩:=h A X D E s S
 have d:∀{k t u},hget (apq f b (ty,w2)) k=some (t,u) ->∃p,hget f k=some (t,p)/\∀v,RV Γ' p v->RV Γ' u v:=λ{k t u} h=>by
  rw[kNq H] at h;split at h
  .rename_i e;subst e;cases h;exact⟨w1,H,V Γ'⟩
  .exact⟨u,h,λ_ q=>q⟩
 refine⟨n,w,_,R',ev,v,L,Γ',X',Z,h2,M,J,P,⟨g.wf,λk t u h=>?_,λk Y y z K Q e=>?_,by rw[Zkq];exact g.nd,g.dX,g.xlt,g.dlt,g.res,g.gl⟩,O.trans ⟨λ_ _=>rfl,λh=>h,Zb _,λ_ _ _ _=>rfl,λ_ h=>h,λ_ h=>.inl h,λk y _ h=>?_,λk y hk h=>?_,λ_ h=>.inl h,λ_ h _ _=>h⟩,hv⟩
 .obtain⟨p,j,F⟩:=d h;obtain⟨T,N,U,v,q4,I⟩:=g.own k t p j;exact⟨T,N,U,v,q4,F v I⟩
 .obtain⟨p,j,_⟩:=d (t:=y.1) (u:=y.2) K;obtain⟨u1,F,_⟩:=d (t:=z.1) (u:=z.2) Q;exact g.inj k Y _ _ j F e
 .obtain⟨p,j,_⟩:=d (t:=y.1) (u:=y.2) h;exact⟨_,j⟩
 .obtain⟨p,j,_⟩:=d (t:=y.1) (u:=y.2) h;exact .inr ⟨k,_,hk,j,rfl⟩
theorem xlq{t:TypeId}{x y:Operand}{b i n e:Nat}{l:List W}{z v:W}{I:TyI}{c:TypeId}(N:o.op= .store t x y)(Q:evW C G fr x=some (.ptr b (0+i*e+0)))(K:evW C G fr y=some v)(L:C.ty t=some I)(U:I.size=e)(D:hget hp b=some (c,.arr (n*e) e l))(X:l.length=n)(M:l[i]? =some z)(F:z.size=e)(J:z.isAgg=true)(k:v.size=e)(B:v.isAgg=true)(P:0<e)
  (h:post .undef (apq hp b (c,.arr (n*e) e (l.set i v))) nw R (some (.storeO b))):aeq C G o fr hp nw R post:=by
 have H:=(Zk.1 M).1;have j:Nat.beq v.size I.size=true:=by rw[U,k];exact Y0 e
 by_cases V:n=1
 .subst V;obtain⟨a,rfl⟩:=List.length_eq_one_iff.1 X;obtain rfl:i=0:=by simpa using H
  rw[Nat.one_mul] at D;refine d4q (b:=b) (ty:=c) (w1:=v) (w2:=.arr (1*e) e [v]) (λY u q=>by rw[Nat.one_mul];exact(bqq k B).2 q) (jTq (ev:=.storeO b) (w:=.undef) (show aDq C G fr hp nw o.op=some (.undef,apq hp b (c,v),nw,.storeO b) from ?_) ⟨by rw[kNq D,Zl rfl],?_⟩)
  .rw[N];refine qmq Q K L D j ?_ rfl;show z7q 50 (.arr e e [a]) _ v=some v
   have q:(Nat.beq (0+0*e+0) 0&&Nat.beq v.size (W.arr e e [a]).size&&v.isAgg==(W.arr e e [a]).isAgg)=true:=by
    rw[k,B];simp[W.size,W.isAgg]
   unfold z7q;rw[q,B];rfl
  .have S:apq (apq hp b (c,v)) b (c,.arr (1*e) e [v])=apq hp b (c,.arr (1*e) e [v]):=by
    exact bYq
   rw[S];exact h
 .have T:(Nat.beq (0+i*e+0) 0&&Nat.beq v.size (n*e)&&v.isAgg==true)=false:=by
   have:Nat.beq v.size (n*e)=false:=by
    rw[k];cases q:Nat.beq e (n*e) with
    |false=>rfl
    |true=>
     have q:=Zi q;rcases ZL n 1 with E|E
     .omega
     .have:2*e<=n*e:=Z7 e Xd;omega
   rw[this];simp
  have E:z7q 49 z 0 v=some v:=by
   have q:(Nat.beq 0 0&&Nat.beq v.size z.size&&v.isAgg==z.isAgg)=true:=by
    rw[k,F,B,J];simp
   unfold z7q;rw[q,B];rfl
  exact jTq (ev:=.storeO b) (w:=.undef) (by rw[N];exact qmq Q K L D j (v5q M P P T E) rfl) h
theorem mGq{w1 w2:W}(m:∀b v,RV b w1 v->RV b w2 v)(h:aeq C G o fr hp nw R λw a c R' ev=>w=w1/\post w2 a c R' ev):aeq C G o fr hp nw R post:=λb X d e s l=>by
 obtain⟨n,w,a,R',ev,v,g,Γ',X',⟨rfl,p⟩,r,i,f,k,t,j,q⟩:=h b X d e s l;exact⟨n,w2,a,R',ev,v,g,Γ',X',p,r,i,f,k,t,j,m _ _ q⟩
theorem ujq{t:TypeId}{x:Operand}{b i n e:Nat}{l:List W}{z:W}{c:TyI}{M:TypeId}(H:o.op= .load t x)(J:evW C G fr x=some (.ptr b (0+i*e+0)))(K:C.ty t=some c)(D:c.size=e)(f:c.agg=true)(E:hget hp b=some (M,.arr (n*e) e l))(P:l.length=n)(y:l[i]? =some z)(j:z.size=e)(k:z.isAgg=true)(I:0<e)
  (h:post z hp nw R (some (.loadO b))):aeq C G o fr hp nw R post:=by
 have B:=(Zk.1 y).1;by_cases N:n=1
 .subst N;obtain⟨a,rfl⟩:=List.length_eq_one_iff.1 P;obtain rfl:i=0:=by simpa using B
  obtain rfl:a=z:=by simpa using y
  rw[Nat.one_mul] at E;refine mGq (w1:=.arr e e [a]) (w2:=a) (λQ u q=>(bqq j k).1 q) (jTq (ev:=.loadO b) (hp2:=hp) (nw2:=nw) (w:=.arr e e [a]) ?_ ⟨rfl,h⟩);rw[H];refine zwq J K E ?_
  have q:(Nat.beq (0+0*e+0) 0&&Nat.beq c.size (W.arr e e [a]).size&&c.agg==(W.arr e e [a]).isAgg)=true:=by
   rw[D,f];simp[W.size,W.isAgg]
  unfold zGq;rw[q,f];rfl
 .have L:(Nat.beq (0+i*e+0) 0&&Nat.beq c.size (n*e)&&c.agg==true)=false:=by
   have:Nat.beq c.size (n*e)=false:=by
    rw[D];cases q:Nat.beq e (n*e) with
    |false=>rfl
    |true=>
     have q:=Zi q;rcases ZL n 1 with F|F
     .omega
     .have:2*e<=n*e:=Z7 e Xd;omega
   rw[this];simp
  have F:zGq 49 z 0 c.size c.agg=some z:=by
   have q:(Nat.beq 0 0&&Nat.beq c.size z.size&&c.agg==z.isAgg)=true:=by
    rw[D,j,f,k];simp
   unfold zGq;rw[q,f];rfl
  exact jTq (ev:=.loadO b) (hp2:=hp) (nw2:=nw) (w:=z) (by rw[H];exact zwq J K E (klq y I I L F)) h
def B1q(C:Cfg)(G:Nat->Option W)(o:Oper)(fr:FrW)(hp:HpW)(nw:Nat)(R:Res):Prop:=
 ∀a X b,a.nw=nw->SatH C G a hp X R->FRel a fr b->∃n v c,opV (Sn C n) C b a.h o=some (v,c)/\ylq C b o.type o.op=none/\∀H1:Heap,H1.next=a.h.next->(a.h.wmin=a.h.next/\H1.tr=a.h.tr) ->EvR a hp .gen (auq C b H1 c o.op)
theorem uXq{x:Operand}{p:Array Operand}{d:Array TypeId}{f:FuncId}{a q c k:List W}{w:W}(z:o.op= .call ⟨.value x,p,d⟩)(A:evW C G fr x=some (.fn f a c))(y:C.ext f=none)(j:avq C G fr p.toList=some q)(b:ViewL (amq hp) (a++q++c) k)(B:PS C G f k w)(i:acq k=true):B1q C G o fr hp nw R:=λD X m g s r=>by
 obtain⟨n,v,Γ1,Γ',w,I,t,J,E,⟨F,H⟩,_⟩:=bOq (R:=R) z A y j b B i D X m g s r;exact⟨n,v,Γ1.h,E,F,H⟩
theorem YKq(E:B1q C G o fr hp nw R)(h:aeq C G o fr hp nw R λw a d R' _=>post w a d R' (some .gen)):aeq C G o fr hp nw R post:=λf X b c s i=>by
 obtain⟨n,w,a,R',ev,v,t,Γ',X',D,j,_,k,y,x,l,B⟩:=h f X b c s i;obtain⟨m,F,r,z,p⟩:=E f X b c s i;have A:=JLq (qTq C (Nat.le_max_left n m)).1 j;have u:=JLq (qTq C (Nat.le_max_right n m)).1 z;have q:=ZA (A.symm.trans u);cases q;exact⟨n,w,a,R',some .gen,v,t,Γ',X',D,j,p,k,y,x,l,B⟩
end
section
variable {G:Nat->Option W}
attribute [local simp] KUq
attribute [local irreducible] CoW OpW FlW aeq ajq
theorem pJq{m i:Nat}(h:m≠1)(a:i<m):(Nat.beq (0+i*33+0) 0&&Nat.beq 33 (m*33)&&true==true)=false:=by
 have:Nat.beq 33 (m*33)=false:=by
  cases q:Nat.beq 33 (m*33) with
  |false=>rfl
  |true=>have:=Zi q;omega
 rw[this];simp
theorem sPq(s:Shd){i:Nat}{x:Ln}(a:s.length≠1)(h:s[i]? =some x):zGq 50 (lnA s) (0+i*33+0) 33 true=some (lnW x):=klq (ziq lnW h) Xd Xd (pJq a (Zk.1 h).1) rfl
theorem sOq(s:Shd){i:Nat}{x:Ln}(b:s.length≠1)(h:s[i]? =some x):z7q 50 (lnA s) (0+i*33+0) (lnW x)=some (lnA s):=by
 have a:=ziq lnW h;rw[lnA,v5q (x':=lnW x) a Xd Xd (pJq b (Zk.1 h).1) rfl,jrq a]
theorem poq(s:Shd)(D:s.length<=1000000000)(E:∀l∈s,l.txs.length<=1000000000):PS cfg G 122 [shdW s] (shdW s):=by
 have m:=KUq s;have F:=qEq s;by_cases j:s.length=1
 .obtain⟨x,rfl⟩:=List.length_eq_one_iff.1 j;refine gIv 10 Y (λR I=>?_);skip
  refine gSo 0 Y (yMq Y Y Y Y Y Yd (irq [x] false D) ?_);rintro w B A (⟨q,rfl,rfl,rfl⟩|⟨rfl,rfl,rfl⟩)
  .cases q
  .rw[zZq m];skip
   refine gL 10 Y ?_;refine gLo (α:=Nat) 4 (λi=>i<=1) (λi=>[(12,.int .i64 (i:Int))]) [2,3,11] (λi=>1-i) (0) rfl (Zf _) (λi y=>?_);refine gS 6 Y (λC=>?_) (λC=>?_)
   .obtain rfl:i=0:=by omega
    refine gP 17 Y (ypq (i:=0) Y Y Y Y Y Y Y Xi) (gM 0 Y (zwq Y Y Y (show zGq 50 (lnA [x]) (0+0*33+0) 33 true=some (lnA [x]) from rfl)) (gC 0 Y (Aeq Y Y (iqq x (E x Xi))) (gP 0 Y (ypq (i:=0) Y Y Y Y Y Y Y Xi) (gM 0 Y (qmq Y Y Y Y Y (show z7q 50 (lnA [x]) _ (lnW x)=some (lnW x) from rfl) rfl) (zbq 4 Y (jxq (λ_=>dzq (b:=2) (w':=lnA [x]) rfl (λH v h=>show RV H (.arr 33 33 [lnW x]) v from(bqq (x:=lnW x) (n:=33) Y Y).2 h)) (pBq (0+1) Y Y Y ⟨by omega,by omega⟩ ?_)))))))
    exact r2q 2 Y (gAg 0 Y (0+1) Xd Xd)
   .obtain rfl:i=1:=by omega
    exact gO 2 Y (zbq 9 Y (y0q Jr rfl (.agg (.cons (.sl (full:=false) (c:=lnA [x]) rfl (qEq [x]) (zqq Xg Xi rfl) Xj) .nil))))
 .skip
  refine gIv 10 Y (λR I=>?_);skip
  refine gSo 0 Y (yMq Y Y Y Y Y Yd (irq s false D) ?_);rintro w B A (⟨rfl,rfl,rfl,rfl⟩|⟨rfl,rfl,rfl⟩)
  .skip
   skip
   refine gL 10 Y ?_;refine gLo (α:=Nat) 4 (λi=>i=0) (λi=>[(12,.int .i64 (i:Int))]) [2,3,11] (λi=>0) (0) rfl (rfl) (λi y=>?_);subst y;exact gO 9 Y (zbq 9 Y (y0q Jr rfl (.agg (.cons .nilfz .nil))))
  .rw[zZq m];refine gL 10 Y ?_;refine gLo (α:=Nat) 4 (λi=>i<=s.length) (λi=>[(12,.int .i64 (i:Int))]) [2,3,11] (λi=>s.length-i) (0) rfl (Zf _) (λi y=>?_);refine gS 6 Y (λC=>?_) (λC=>?_)
   .have u:i<s.length:=by omega
    obtain⟨x,d⟩:∃x,s[i]? =some x:=⟨_,Za u⟩
    exact gP 17 Y (ypq (i:=i) Y Y Y Y Y Y Y u) (gM 0 Y (zwq Y Y Y (sPq s j d)) (gC 0 Y (iqq x (E x (Zj d))) (gP 0 Y (ypq (i:=i) Y Y Y Y Y Y Y u) (gM 0 Y (kdq Y Y Y Y Y (sOq s j d)) (gA 4 Y (i+1) (gAg 2 Y (i+1) (u) Xd))))))
   .exact gO 2 Y (zbq 9 Y (y0q Jr rfl (.agg (.cons (.sl (full:=false) (c:=lnA s) rfl (qEq s) (zqq Xg Xi rfl) Xj) .nil))))
theorem pzq(l:List Shd)(B:l.length<=1000000)(f:∀s∈l,s.length<=1000000000/\∀y∈s,y.txs.length<=1000000000):PS cfg G 64 [plW l] (plW l):=by
 have e:(l.map shdW).length=l.length:=Ze _;refine gIv 14 Y (λR D=>gZ 0 Y e (zbq 4 Y ?_));refine ZAq (α:=Nat) (λi=>i<=l.length) 3 (λi=>(l.take i).map shdW) 236 1 (λi=>[(8,.int .i64 (i:Int))]) [(2,_),(6,_),(7,_)] _ (λi=>l.length-i) (0) ⟨rfl,rfl,rfl,trivial⟩ (Zf _) ⟨rfl,trivial⟩ Y Y Y (λi A=>?_);refine zCq 6 Y ?_;refine gS 0 Y (λq=>?_) (λq=>?_)
 .have d:i<l.length:=by omega
  obtain⟨x,b⟩:∃x,l[i]? =some x:=⟨_,Za d⟩
  obtain⟨z,u⟩:=f x (Zj b);have o:((l.take i).map shdW).length<=1000000:=by rw[Ze,Zu];omega
  have c:(l.take (i+1)).map shdW=(l.take i).map shdW++[shdW x]:=by rw[YA,b,Z4];rfl
  have C:=k1q (l.take i);have j:acq ((l.take i).map shdW++[shdW x])=true:=by rw[<-c];exact k1q _
  exact gP 6 Y (zyq (i:=i) Y Y Y Y Y Y Y (ziq shdW b)) (gC 8 Y (poq x z u) (gM 1 Y (yLq Y Y (Yuq [_,_] (k:=rMq) (news:=[shdW x]) Y Y Y Y Y (j3q Y Y Y Y) Xi (by show(((l.take i).map shdW).length+1)*24<=_;omega) (by show((l.take i).map shdW).length+1<=_;omega) rfl Xi)) (gA 5 Y (i+1) (zbq 2 Y (k3q 3 (i+1) (d) Xd (Zf _) (c) Xw Xd Yr rfl Ya ⟨rfl,trivial⟩ ⟨rfl,rfl,rfl,trivial⟩ Xh Xh rfl Xm Xk Xt)))))
 .rw[Zp (show l.length<=i by omega)];exact zbq 2 Y (qQq Xj (zRq 9 Y (y0q Xo Y (a5q (H0:=[]) Xg (k1q _) Xi))))
end
section
attribute [local irreducible] CoW OpW FlW aeq ajq
variable {G:Nat->Option W}
def Uns(x:Tx):Prop:=x.sign≠xHq x
instance(x:Tx):Decidable (Uns x):=Classical.propDecidable _
instance(l:List Tx):Decidable (∃x∈l,Uns x):=Classical.propDecidable _
theorem wGq(x:Tx)(a:x.ok):PS cfg glK 118 [txW x] (.bool (decide (Uns x))):=by
 by_cases h:x.sign=xHq x
 .skip
  exact gI 9 Y (λR c=>gC 0 Y (zrq (w':=.int .i64 0) (qRq x a) (by rw[Zl h])) (gF 0 Y zN (gQ 4 Y (uHq λq=>q h))))
 .skip
  exact gI 9 Y (λR c=>gC 0 Y (zrq (w':=.int .i64 110) (qRq x a) (by rw[Zg h])) (gT 0 Y (Zc not (eqI_not.2 Xg)) (gQ 4 Y (Xhq h))))
theorem wFq(l:List Tx)(f:Bool)(c:∀x∈l,x.ok)(a:l.length<=1000000000):PS cfg glK 61 [.fz (l.map txW) 99 f] (.bool (decide (∃x∈l,Uns x))):=by
 have d:=raq (G:=glK) l f 118 Uns (λx h=>wGq x (c x h)) rfl a;have e:=jnq l;exact gI 8 Y (λR g=>gC 0 Y (d) (gQa 4 Y))
def tp0:W:=.agg 2 [.nils,.bool false]
theorem YFq{b:Nat->Option W}:View b tp0 (tpW ⟨[],false⟩):=.agg (.cons .nilfz (.cons (.pur rfl) .nil))
theorem cl0i:PS cfg G 177 [.nils] .nils:=by
 refine c3q (fn:=Tryz.f177) Y Y Y (Yb rfl) (λR a=>?_);skip
 exact zCq 20 Y (gQa 0 Y)
theorem rwq(x:Itm)(f:Bool):PS cfg G 111 [tp0,.fz [aiq x] 101 f] (tpW ⟨[x],false⟩):=by
 have a:acq [aiq x]=true:=by simp[acq]
 refine gIv 10 Y (λR b=>gC 0 Y (cl0i) (zbq 1 Y ?_))
 (refine zhq rfl (mJq (k:=D2q) (e:=101) (news:=[aiq x]) Y Y Y Y Y Y Y Y Y a (by show 1*136<=_;omega) Xi ?_))
 exact zeq 5 Y (y0q Jr rfl (.pur (Kpq ⟨[x],false⟩)))
theorem dXq:PS cfg G 109 [tp0] (.int .i64 0):=by
 refine gI 11 Y (λR b=>?_);refine gL 0 Y ?_;refine gF 0 Y (ltI_not.2 Xg) ?_;refine gL 17 Y ?_;refine gLo (α:=Nat) 4 (λi=>i=0) (λi=>[(14,.int .i64 (i:Int))]) [2,3,12,13] (λi=>0) (0) rfl (rfl) (λi a=>?_);subst a;refine gO 9 Y ?_;exact gQa 8 Y
theorem AZq(d:List Eve)(f:Bool)(F:FuncId)(A:List W)(m:acq A=true)(P:Eve->Prop) [DecidablePred P](H:∀x∈d,PS cfg G F (eveW x::A) (.bool (decide (P x))))(v:cfg.ext F=none)(K:d.length<=1000000000):PE cfg G 108 [.fz (d.map eveW) 100 f,.fn F [] A] (λw=>∃i:Int,w= .int .i64 i/\((∃x∈d,P x)↔0<=i)):=by
 have e:(d.map eveW).length=d.length:=Ze _;refine gIe 9 Y (λR J=>gZ 0 Y e ?_);refine gLo (α:=Nat) 4 (λi=>i<=d.length/\∀j x,j<i->d[j]? =some x->¬P x) (λi=>[(8,.int .i64 (i:Int))]) [0,1,4,7] (λi=>d.length-i) (0) rfl (⟨Zf _,λj x h=>by omega⟩) (λi D=>?_);obtain⟨I,C⟩:=D;refine gS 6 Y (λE=>?_) (λE=>?_)
 .obtain⟨x,k⟩:∃x,d[i]? =some x:=⟨_,Za Xd⟩
  refine gP 15 Y (zyq (i:=i) Y Y Y Y Y Y Y (ziq eveW k)) (zbq 1 Y (bEq Y Y Y v Y Y (H x (Zj k)) (by simp[acq,m]) Xi (zeq 2 Y ?_)));refine gS 0 Y (λs=>?_) (λs=>?_)
  .exact gO 9 Y (zbq 2 Y (ybq (w':=.int .i64 (i:Int)) Jr rfl (.pur rfl) rfl ⟨_,rfl,λ_=>by omega,λ_=>⟨x,Zj k,s⟩⟩))
  .exact gA 4 Y (i+1) (gAg 2 Y (i+1) (⟨by omega,λj y hj B=>by rcases ZC.1 hj with q|rfl;exact C j y q B;exact ZA (k.symm.trans B)▸s⟩) Xd)
 .refine gO 2 Y (zbq 8 Y ?_)
  exact ybq (w':=.int .i64 (-1)) Jr rfl (.pur rfl) rfl ⟨_,rfl,λ⟨x,k,q⟩=>by
   obtain⟨j,hj⟩:=List.getElem?_of_mem k;exact absurd q (C j x Yq hj),λh=>absurd h Xg⟩
theorem Bzq(c:List Eve)(f:Bool)(F:FuncId)(d:List W)(a:acq d=true)(P:Eve->Prop) [DecidablePred P](h:∀x∈c,PS cfg G F (eveW x::d) (.bool (decide (P x))))(e:cfg.ext F=none)(j:c.length<=1000000000) [Decidable (∃x∈c,P x)]:PS cfg G 56 [.fz (c.map eveW) 100 f,.fn F [] d] (.bool (decide (∃x∈c,P x))):=by
 have g:aaq (.fn F [] d)=true:=by show(true&&acq d)=true;rw[a];rfl
 refine gI 9 Y (λR k=>?_)
 (refine zhq rfl (qfq Y Y Y Y Y (AZq c f F d a P h e j) (by simp[acq,aaq,a]) ?_);rintro w m ⟨i,rfl,hi⟩)
 refine icq Y Y ?_;refine zeq 4 Y ?_;exact gQ 0 Y Je
theorem AXq(d:List Ln)(f:Bool)(F:FuncId)(A:List W)(m:acq A=true)(P:Ln->Prop) [DecidablePred P](H:∀x∈d,PS cfg G F (lnW x::A) (.bool (decide (P x))))(v:cfg.ext F=none)(K:d.length<=1000000000):PE cfg G 183 [.fz (d.map lnW) 33 f,.fn F [] A] (λw=>∃i:Int,w= .int .i64 i/\((∃x∈d,P x)↔0<=i)):=by
 have e:(d.map lnW).length=d.length:=Ze _;refine gIe 9 Y (λR J=>gZ 0 Y e ?_);refine gLo (α:=Nat) 4 (λi=>i<=d.length/\∀j x,j<i->d[j]? =some x->¬P x) (λi=>[(8,.int .i64 (i:Int))]) [0,1,4,7] (λi=>d.length-i) (0) rfl (⟨Zf _,λj x h=>by omega⟩) (λi D=>?_);obtain⟨I,C⟩:=D;refine gS 6 Y (λE=>?_) (λE=>?_)
 .obtain⟨x,k⟩:∃x,d[i]? =some x:=⟨_,Za Xd⟩
  refine gP 15 Y (zyq (i:=i) Y Y Y Y Y Y Y (ziq lnW k)) (zbq 1 Y (bEq Y Y Y v Y Y (H x (Zj k)) (by simp[acq,m]) Xi (zeq 2 Y ?_)));refine gS 0 Y (λs=>?_) (λs=>?_)
  .exact gO 9 Y (zbq 2 Y (ybq (w':=.int .i64 (i:Int)) Jr rfl (.pur rfl) rfl ⟨_,rfl,λ_=>by omega,λ_=>⟨x,Zj k,s⟩⟩))
  .exact gA 4 Y (i+1) (gAg 2 Y (i+1) (⟨by omega,λj y hj B=>by rcases ZC.1 hj with q|rfl;exact C j y q B;exact ZA (k.symm.trans B)▸s⟩) Xd)
 .refine gO 2 Y (zbq 8 Y ?_)
  exact ybq (w':=.int .i64 (-1)) Jr rfl (.pur rfl) rfl ⟨_,rfl,λ⟨x,k,q⟩=>by
   obtain⟨j,hj⟩:=List.getElem?_of_mem k;exact absurd q (C j x Yq hj),λh=>absurd h Xg⟩
theorem Bxq(c:List Ln)(f:Bool)(F:FuncId)(d:List W)(a:acq d=true)(P:Ln->Prop) [DecidablePred P](h:∀x∈c,PS cfg G F (lnW x::d) (.bool (decide (P x))))(e:cfg.ext F=none)(j:c.length<=1000000000) [Decidable (∃x∈c,P x)]:PS cfg G 115 [.fz (c.map lnW) 33 f,.fn F [] d] (.bool (decide (∃x∈c,P x))):=by
 have g:aaq (.fn F [] d)=true:=by show(true&&acq d)=true;rw[a];rfl
 refine gI 9 Y (λR k=>?_)
 (refine zhq rfl (qfq Y Y Y Y Y (AXq c f F d a P h e j) (by simp[acq,aaq,a]) ?_);rintro w m ⟨i,rfl,hi⟩)
 refine icq Y Y ?_;refine zeq 4 Y ?_;exact gQ 0 Y Je
end
section
variable {C:Cfg} {G:Nat->Option W} {o:Oper} {hp:HpW} {nw:Nat} {fr:FrW} {R:Res} {post:W->HpW->Nat->Res->Option EvW->Prop}
theorem mIq(b:Nat)(E:FrW)(j:HpW){ty:TypeId}{c:W}(V:hget hp b=some (ty,c))(I:aaq c=true)(hf:rOq (flq b c) fr E)(B:mEq (flq b c) b hp j)(nd:(j.map (·.1)).Nodup)
  (h:aeq C G o E j nw R λw A L R' ev=>ev=some .gen/\post w A L R' ev):aeq C G o fr hp nw R post:=λf X U O s f0=>by
 obtain⟨p1,p2,p3,v0,P,p5⟩:=s.own b ty c V;let Γ2:Ctx:=⟨f.nw,f.σ,λc=>f.D c\/c=f.σ b,f.h⟩
 have T:f.Le Γ2:=⟨Zb _,λ_ _=>rfl,λ_ h=>.inl h,λ_ _=>rfl⟩
 have q:Seen (flq b c) f Γ2:=⟨λ_ h _=>h,λ_ _ _=>rfl,λ_ h=>.inl h,λ_ _=>rfl,λk c' H h=>by
  unfold flq at h;split at h
  .rename_i e;rw[ZH] at e;subst e;cases h;exact⟨.inr rfl,v0,uUq P,p5⟩
  .cases h⟩
 have Q:f.σ b<f.h.next:=by
  rcases ZL (f.σ b) f.h.next with h|h
  .exact h
  .rw[s.wf _ h] at P;cases P
 have s2:SatH C G Γ2 j X R:=⟨s.wf,λk ty' w H=>by
  obtain⟨K,w0,z,Y⟩:=kFq B k _ _ H;obtain⟨q1,q2,q3,u,q4,q5⟩:=s.own _ _ _ z;refine⟨q1,λh=>?_,q3,u,q4,kDq q Y q5⟩;rcases h with h|h
  .exact q2 h
  .exact K (s.inj k b _ _ z V h),λk k' x y hx hy e=>by
  obtain⟨_,w0,z,_⟩:=kFq B k x.1 x.2 hx;obtain⟨_,w1,M,_⟩:=kFq B k' y.1 y.2 hy;exact s.inj _ _ _ _ z M e,nd,λd F Z=>by
  rcases F with h|rfl
  .exact s.dX d h Z
  .exact p3 Z,s.xlt,λd F=>by
  rcases F with h|rfl
  .exact s.dlt d h
  .exact Q,R.st _ _ _ _ _ s.res T.D T.val (λ_ _=>rfl) (Zb _),s.gl.mono T⟩
 have a:Frm f.nw f hp X Γ2 j X:=⟨λ_ _=>rfl,λh=>h,Zb _,λ_ _ _ _=>rfl,λ_ h=>.inl h,λd F=>by
  rcases F with h|rfl
  .exact .inl h
  .exact .inr (.inl (.inl ⟨b,_,V,rfl⟩)),λk x H h=>by
  obtain⟨_,w0,z,_⟩:=kFq B k x.1 x.2 h;exact⟨_,z⟩,λk x H h=>by
  obtain⟨_,w0,z,_⟩:=kFq B k x.1 x.2 h;exact .inr ⟨k,_,H,z,rfl⟩,λ_ h=>.inl h,λ_ h _ _=>h⟩
 obtain⟨n,w,A,R',ev,v,h',Γ',X',⟨rfl,h1⟩,h2,⟨h3,S⟩,h4,J,h6,h7,h8⟩:=h Γ2 X U O s2 λt w hw=>by
  obtain⟨w0,K,z⟩:=vYq hf t w hw;obtain⟨u,Y,M⟩:=f0 _ _ K;exact⟨u,Y,kDq q z M⟩
 exact⟨n,w,A,R',_,v,h',Γ',X',h1,h2,⟨h3,S⟩,h4,⟨J.nw,J.σ,λc I=>J.D c (.inl I),λc I=>J.val c (.inl I)⟩,h6,a.trans h7,h8⟩
end
section
attribute [local irreducible] CoW OpW FlW aeq ajq
variable {G:Nat->Option W}
attribute [local simp] jGq
theorem huq{i m:Nat}:(Nat.beq (0+i*4+2) 0&&Nat.beq 2 (m*4)&&true==true)=false:=by
 have:Nat.beq (0+i*4+2) 0=false:=by
  cases q:Nat.beq (0+i*4+2) 0 with
  |false=>rfl
  |true=>have:=Zi q;omega
 rw[this];rfl
theorem cUq{l:List Sb}{i:Nat}{x:Sb}(h:l[i]? =some x):zGq 50 (sbA l) (0+i*4+2) 2 true=some (tpW x.tap):=klq (ziq sbW h) Xd Xd huq rfl
theorem htq{l:List Sb}{i:Nat}{x:Sb}(h:l[i]? =some x):z7q 50 (sbA l) (0+i*4+2) (tpW x.tap)=some (sbA l):=by
 have a:=ziq sbW h;rw[sbA,v5q (x':=sbW x) a Xd Xd huq rfl,jrq a]
theorem pQq(h:Hb)(y:h.subs.length<=1000000000)(m:∀s∈h.subs,s.tap.items.length<=1000000000):PS cfg G 65 [hbW h] (hbW h):=by
 obtain⟨n,l⟩:=h;simp only at y m;have j:=jGq l;have A:=ZUq l;refine gIv 10 Y (λR E=>?_);skip
 refine gSo 0 Y (yMq Y Y Y Y Y Yd (pqq l false y) ?_);rintro w D C (⟨rfl,rfl,rfl,rfl⟩|⟨rfl,rfl,rfl⟩)
 .skip
  skip
  refine gL 9 Y ?_;refine gLo (α:=Nat) 4 (λi=>i=0) (λi=>[(11,.int .i64 (i:Int))]) [1,2,10] (λi=>0) (0) rfl (rfl) (λi q=>?_);subst q;exact gO 9 Y (zbq 9 Y (y0q Jr rfl (.agg (vR (.cons .nilfz .nil)))))
 .rw[zZq j];refine gL 9 Y ?_;refine gLo (α:=Nat) 4 (λi=>i<=l.length) (λi=>[(11,.int .i64 (i:Int))]) [1,2,10] (λi=>l.length-i) (0) rfl (Zf _) (λi q=>?_);refine gS 6 Y (λB=>?_) (λB=>?_)
  .have d:i<l.length:=by omega
   obtain⟨x,b⟩:∃x,l[i]? =some x:=⟨_,Za d⟩
   exact gP 17 Y (ypq (i:=i) Y Y Y Y Y Y Y d) (gM 1 Y (zwq Y Y Y (cUq b)) (gC 0 Y (gLq x.tap (m x (Zj b))) (gP 0 Y (ypq (i:=i) Y Y Y Y Y Y Y d) (gM 1 Y (kdq Y Y Y Y Y (htq b)) (gA 4 Y (i+1) (gAg 2 Y (i+1) (d) Xd))))))
  .exact gO 2 Y (zbq 9 Y (y0q Jr rfl (.agg (vR (.cons (.sl (full:=false) (c:=sbA l) rfl (ZUq l) (zqq Xg Xi rfl) Xj) .nil)))))
def DPq(e:Eve):W->Prop:=λw=>∃t:Tp,w= .tup [tpW t,.int .i64 (if mlq e then 0 else 8)]
theorem cIq(t:Tp)(e:Int):aaq (.tup [tpW t,.int .i64 e])=true:=by simp[aaq,acq]
theorem hQq(e:Eve):PE cfg G 58 [tp0,.int .i64 1,eveW e] (DPq e):=by
 by_cases h:mlq e
 .skip
  refine gIe 13 Y (λR d=>?_);refine gL 0 Y ?_;refine gWr 0 Y ?_;refine gC 16 Y (dXq) ?_;refine gF 0 Y zN ?_;refine gC 2 Y (zrq (w':=.bool true) (K8q e) (by rw[Zq (h)])) ?_;refine gF 9 Y (ltI_not.2 Xg) ?_;refine gF 2 Y (ltI_not.2 Xg) ?_;refine gT 24 Y (Zc not (ltI_not.2 Xg)) ?_;refine gSo 10 Y (mIq 4 [(56,tp0),(58,.fz [aiq ⟨false,e⟩] 101 false),(6,.ptr 2 0)] [(2,157,.agg 2 [.nils,.bool false])] (c:=aiq ⟨false,e⟩) rfl (ygq _) ⟨⟨_,rfl,.pur rfl⟩,⟨_,rfl,.sl (full:=false) (c:=aiq ⟨false,e⟩) rfl (ygq _) rfl Xj⟩,⟨_,rfl,.ptrK rfl⟩,trivial⟩ ⟨⟨by decide,_,rfl,.pur rfl⟩,trivial⟩ Xi (Ksq Y Y Y Y Y (rwq ⟨false,e⟩ false) (by simp[acq,aaq,tp0]) Xi ⟨rfl,?_⟩));refine zbq 7 Y ?_;exact ybq (w':=.tup [tpW ⟨[⟨false,e⟩],false⟩,.int .i64 0]) Jr rfl (.pur (cIq _ _)) (cIq _ _) ⟨_,by rw[Zl h]⟩
 .skip
  refine gIe 13 Y (λR d=>?_);refine gL 0 Y ?_;refine gWr 0 Y ?_;refine gC 16 Y (dXq) ?_;refine gF 0 Y zN ?_;refine gC 2 Y (zrq (w':=.bool false) (K8q e) (by rw[Zw (h)])) ?_;refine zbq 16 Y ?_;exact ybq (w':=.tup [tpW ⟨[],false⟩,.int .i64 8]) Jr rfl (.tup (.cons YFq (.cons (.pur rfl) .nil))) (cIq _ _) ⟨_,by rw[Zg h]⟩
theorem oUq(e:Eve):PS cfg G 57 [eveW e] (.bool (decide (¬mlq e))):=by
 by_cases h:mlq e
 .skip
  refine gI 10 Y (λR c=>gE 0 Y (hQq e) ?_);rintro w a ⟨t,rfl⟩;rw[Zl h]
  exact gF 11 Y zN (gQ 4 Y (uHq λq=>q h))
 .skip
  refine gI 10 Y (λR c=>gE 0 Y (hQq e) ?_);rintro w a ⟨t,rfl⟩;rw[Zg h]
  exact gT 11 Y (Zc not (eqI_not.2 Xg)) (gQ 4 Y (Xhq h))
end
theorem YRq{C:Cfg}{G G2:Nat->Option W}{f:FuncId}{m:Nat}{t:List W}{r:HpW}{Q:W->HpW->Nat->Prop}(A:∀g w,G g=some w->G2 g=some w)(h:zUq C G f m t r Q):zUq C G2 f m t r Q:=λR d X u e s F=>by
 obtain⟨n,v,Γ',X',w,i,R',E,a,l,y,z⟩:=h R d X u e ⟨s.wf,s.own,s.inj,s.nd,s.dX,s.xlt,s.dlt,s.res,λg w j o=>s.gl g w j (A g w o)⟩ F;refine⟨n,v,Γ',X',w,i,R',E,⟨a.wf,a.own,a.inj,a.nd,a.dX,a.xlt,a.dlt,a.res,λg w j o q p=>RV.mono (Γ:=⟨q,p,d.D,d.h⟩) (Γ':=⟨q,p,Γ'.D,Γ'.h⟩) ⟨Zb _,λ_ _=>rfl,l.dsub,λc k=>qbq (l.keep c (s.dlt c k) ?_ (s.dX c k))⟩ (s.gl g w j o q p)⟩,l,y,z⟩;rintro⟨b,x,B,rfl⟩;exact(s.own b x.1 x.2 B).2.1 k
theorem Yyq{C:Cfg}{G G2:Nat->Option W}{f:FuncId}{a:List W}{r:W}(b:∀g w,G g=some w->G2 g=some w)(h:PS C G f a r):PS C G2 f a r:=YRq b h
def hdG:Hdr:=⟨0,zeroD,zeroD,zeroD,0⟩
def itZ:Itm:=⟨false,⟨0,false,hdG⟩⟩
def itG:Itm:=⟨true,⟨0,false,hdG⟩⟩
def glT:Nat->Option W:=λg=>match Nat.beq g 0 with
 |true=>some (aiq itG)
 |false=>glK g
theorem kkq(g:Nat)(w:W)(h:glK g=some w):glT g=some w:=by
 unfold glT;split
 .rename_i e;obtain rfl:=Zi e;cases h
 .exact h
instance(x y:Itm):Decidable (x=y):=Classical.propDecidable _
theorem f1q(x y:Itm):eqW cfg 300 79 (aiq x) (aiq y)=some (decide (x=y)):=by
 rw[lcq (p:=x=y) (b:=decide (x.gap=y.gap)&&((decide (x.ev.number=y.ev.number)&&(decide (x.ev.roll=y.ev.roll)&&((decide (x.ev.hdr.height=y.ev.hdr.height)&&(decide (x.ev.hdr.parent=y.ev.hdr.parent)&&(decide (x.ev.hdr.state=y.ev.hdr.state)&&(decide (x.ev.hdr.rows=y.ev.hdr.rows)&&(decide (x.ev.hdr.many=y.ev.hdr.many)&&true)))))&&true)))&&true)) (by
  obtain⟨a,b,c,d,e,f,g,h⟩:=x;obtain⟨l,m,k,j,o,i,q,n⟩:=y;simp only[Itm.mk.injEq,Eve.mk.injEq,Hdr.mk.injEq,Zd,YK,and_true])]
 exact uGq Y Y Y Y (qdq Y Y Y (i6q Y Y) (qdq Y Y Y (uGq Y Y Y Y (qdq Y Y Y (QVq Y Y) (qdq Y Y Y (i6q Y Y) (qdq Y Y Y (uGq Y Y Y Y (qdq Y Y Y (QVq Y Y) (qdq Y Y Y (yUq Y Y Y Y Y Y _ _ _) (qdq Y Y Y (yUq Y Y Y Y Y Y _ _ _) (qdq Y Y Y (yUq Y Y Y Y Y Y _ _ _) (qdq Y Y Y (QVq Y Y) Zrq)))))) Zrq)))) Zrq))
section
attribute [local irreducible] CoW OpW FlW aeq ajq
def Z1q(l:List Itm):Nat->Itm
 |0=>itZ
 |i+1=>l.getD i itZ
theorem sUq{l:List Itm}{i:Nat}(h:i<l.length):l[i]? =some (Z1q l (i+1)):=by
 show l[i]? =some (l.getD i itZ);rw[List.getD_eq_getElem?_getD,Za h];rfl
def ItM(p x:Itm):Prop:=if x.gap=true then x=itG/\p≠itG else mlq x.ev
theorem iHq{p x:Itm}(h:x.gap=true):ItM p x↔x=itG/\p≠itG:=by unfold ItM;rw[Zl h]
theorem nZq{p x:Itm}(h:¬x.gap=true):ItM p x↔mlq x.ev:=by unfold ItM;rw[Zg h]
def TpM(t:Tp):Prop:=t.items.length<=64/\∀i,i<t.items.length->ItM (Z1q t.items i) (Z1q t.items (i+1))
instance(t:Tp):Decidable (TpM t):=Classical.propDecidable _
def Cwq:W:=.arr 32 1 (List.replicate 32 (.int .u8 0))
def dhq:W:=.agg 101 [.bool false,.agg 100 [.int .i64 0,.bool false,.agg 98 [.int .i64 0,Cwq,Cwq,Cwq,.int .i64 0]]]
theorem qFq{b:Nat->Option W}:View b dhq (aiq itZ):=.agg (vR (.cons (.agg (vR (vR (.cons (.agg (vR (.cons zYq (.cons zYq (.cons zYq (.cons (.pur rfl) .nil)))))) .nil)))) .nil))
theorem Qdq(t:Tp)(M:t.items.length<=4611686018427387903):PS cfg glT 109 [tpW t] (.int .i64 (if TpM t then 0 else 8)):=by
 have I:asq 2 (t.items.map aiq)=true:=zaq (w:=.fz (t.items.map aiq) 101 false) (show acq (t.items.map aiq)=true from eJq _);have e:(t.items.map aiq).length=t.items.length:=Ze _;by_cases H:t.items.length<=64
 .skip
  refine gI 11 Y (λR L=>gZ 0 Y e (gF 0 Y (ltI_not.2 Xd) (zbq 15 Y (jxq (λ_=>jYq (b:=1) (w':=aiq itZ) rfl qFq) (z5q Y Y ?_)))))
  refine kjq Y Y (kiq (w':=.int .i64 ((t.items.length:Nat):Int)) Y Y Yj ?_);refine zeq 4 Y ?_;refine jzq (α:=Nat×Itm) (λq=>(q.1<=t.items.length/\q.2=Z1q t.items q.1)/\∀j,j<q.1->ItM (Z1q t.items j) (Z1q t.items (j+1))) (λq=>[(14,.int .i64 (q.1:Int))]) [(2,_),(3,_),(12,_),(13,_)] (λq=>[(1,79,aiq q.2),(0,157,tpW t)]) (λq=>t.items.length-q.1) ((0,itZ)) ⟨rfl,rfl,rfl,rfl,trivial⟩ (⟨⟨Zf _,rfl⟩,λj h=>by simp at h⟩) ⟨rfl,trivial⟩ (rfl) (λq J=>?_);obtain⟨i,p⟩:=q;obtain⟨⟨K,D⟩,E⟩:=J;simp only at K D E;refine zCq 6 Y ?_;refine gS 0 Y (λm=>?_) (λm=>?_)
  .have G:i<t.items.length:=by omega
   have d:=sUq G;obtain⟨x,B⟩:∃x,Z1q t.items (i+1)=x:=⟨_,rfl⟩
   rw[B] at d
   have A:ItM p x->∀j,j<i+1->ItM (Z1q t.items j) (Z1q t.items (j+1)):=λq j F=>by
    rcases ZC.1 F with h|rfl
    .exact E j h
    .rw[B,<-D];exact q
   have u:¬ItM p x->¬TpM t:=λq r=>q (by have:=r.2 i G;rw[B,<-D] at this;exact this)
   obtain⟨g,ev⟩:=x;skip
   cases g with
   |true=>
    by_cases m:(⟨true,ev⟩:Itm)=itG
    .by_cases C:p=itG
     .exact zHq 6 Y (gP 0 Y (zyq (i:=i) Y Y Y Y Y Y Y (ziq aiq d)) (zbq 13 Y (kiq (w':=.bool false) rfl (kUq Y Y Y Y (f1q ⟨true,ev⟩ itG)) (by rw[Zq m];rfl) (zeq 3 Y (kiq (w':=.bool true) rfl (yEq Y Y Y Y (f1q p itG)) (by rw[Zq C]) (zeq 25 Y (qQq Xj (zRq 2 Y (gQ 0 Y (by rw[Zg (u λq=>((iHq rfl).1 q).2 C)]))))))))))
     .refine zHq 6 Y (gP 0 Y (zyq (i:=i) Y Y Y Y Y Y Y (ziq aiq d)) (zbq 13 Y (kiq (w':=.bool false) rfl (kUq Y Y Y Y (f1q ⟨true,ev⟩ itG)) (by rw[Zq m];rfl) (zeq 3 Y (kiq (w':=.bool false) rfl (yEq Y Y Y Y (f1q p itG)) (by rw[Zw C]) (zeq 25 Y (gWr 0 Y (zbq 2 Y ?_))))))));skip
      exact y6q ((i+1,(⟨true,ev⟩:Itm)):Nat×Itm) ⟨⟨by show i+1<=_;omega,B.symm⟩,A ((iHq rfl).2 ⟨m,C⟩)⟩ (by show t.items.length-(i+1)<t.items.length-i;omega) (zvq (nw2:=2) (Zf _) Xd (by(repeat (first|exact trivial|refine⟨rfl,?_⟩))) (by simp[agq,I]) (zoq ⟨⟨by omega,rfl,zaq (ygq _)⟩,⟨by omega,rfl,zaq (Kpq t)⟩,trivial⟩) Xi)
    .exact zHq 6 Y (gP 0 Y (zyq (i:=i) Y Y Y Y Y Y Y (ziq aiq d)) (zbq 13 Y (kiq (w':=.bool true) rfl (kUq Y Y Y Y (f1q ⟨true,ev⟩ itG)) (by rw[Zw m];rfl) (zeq 29 Y (qQq Xj (zRq 2 Y (gQ 0 Y (by rw[Zg (u λq=>m ((iHq rfl).1 q).1)]))))))))
   |false=>
    by_cases m:mlq ev
    .refine zHq 6 Y (gP 0 Y (zyq (i:=i) Y Y Y Y Y Y Y (ziq aiq d)) (gC 27 Y (zrq (w':=.bool true) (K8q ev) (by rw[Zq (m)])) (gWr 15 Y (zbq 2 Y ?_))));skip
     exact y6q ((i+1,(⟨false,ev⟩:Itm)):Nat×Itm) ⟨⟨by show i+1<=_;omega,B.symm⟩,A ((nZq Xi).2 m)⟩ (by show t.items.length-(i+1)<t.items.length-i;omega) (zvq (nw2:=2) (Zf _) Xd (by(repeat (first|exact trivial|refine⟨rfl,?_⟩))) (by simp[agq,I]) (zoq ⟨⟨by omega,rfl,zaq (ygq _)⟩,⟨by omega,rfl,zaq (Kpq t)⟩,trivial⟩) Xi)
    .exact zHq 6 Y (gP 0 Y (zyq (i:=i) Y Y Y Y Y Y Y (ziq aiq d)) (gC 27 Y (zrq (w':=.bool false) (K8q ev) (by rw[Zw (m)])) (zbq 15 Y (qQq Xj (zRq 2 Y (gQ 0 Y (by rw[Zg (u λq=>m ((nZq Xi).1 q))])))))))
  .have yes:TpM t:=⟨H,λj F=>E j Xd⟩;exact zbq 2 Y (qQq Xj (zRq 8 Y (gQ 0 Y Yp)))
 .skip
  exact gI 11 Y (λR L=>gZ 0 Y e (gT 0 Y (ltI_iff.2 Xd) (gQ 10 Y (by rw[Zg λq:TpM t=>H q.1]))))
def nRq(l:List Sb):Nat->Int
 |0=>-1
 |i+1=>((l[i]?).map (·.id)).getD (-1)
theorem KWq{l:List Sb}{i:Nat}{s:Sb}(h:l[i]? =some s):nRq l (i+1)=s.id:=by
 show((l[i]?).map (·.id)).getD (-1)=_;rw[h];rfl
def SbM(p n:Int)(s:Sb):Prop:=((p<s.id/\s.id<n)/\(0<=s.beg/\s.beg<1073741824))/\TpM s.tap
def HbM(h:Hb):Prop:=((0<=h.next/\h.next<1073741824)/\h.subs.length<=16)/\∀(i:Nat) s,h.subs[i]? =some s->SbM (nRq h.subs i) h.next s
instance(h:Hb):Decidable (HbM h):=Classical.propDecidable _
theorem K1q(h:Hb)(P:h.subs.length<=4611686018427387903)(N:∀s∈h.subs,s.tap.items.length<=4611686018427387903):PS cfg glT 62 [hbW h] (.int .i64 (if HbM h then 0 else 8)):=by
 have e:(h.subs.map sbW).length=h.subs.length:=Ze _;by_cases B:0<=h.next/\h.next<1073741824
 .by_cases I:h.subs.length<=16
  .skip
   refine gI 11 Y (λR G=>gC 0 Y (zrq (w':=.bool true) (ucq h.next) (by rw[Zq (B)])) (gZ 4 Y e (gF 0 Y (ltI_not.2 Xd) (gZ 16 Y e ?_))));refine gLo (α:=Nat×Int) 4 (λq=>(q.1<=h.subs.length/\q.2=nRq h.subs q.1)/\∀j,j<q.1->∀s,h.subs[j]? =some s->SbM (nRq h.subs j) h.next s) (λq=>[(19,.int .i64 (q.1:Int)),(3,.int .i64 q.2)]) [1,2,17,18] (λq=>h.subs.length-q.1) ((0,-1)) rfl (⟨⟨Zf _,rfl⟩,λj h=>by simp at h⟩) (λq K=>?_);obtain⟨i,p⟩:=q;obtain⟨⟨L,D⟩,E⟩:=K;simp only at L D E;refine gS 6 Y (λO=>?_) (λO=>?_)
   .have F:i<h.subs.length:=by omega
    obtain⟨s,f⟩:∃s,h.subs[i]? =some s:=⟨_,Za F⟩
    have d:¬SbM p h.next s->¬HbM h:=λq r=>q (by have:=r.2 i s f;rw[<-D] at this;exact this)
    have J:=N s (Zj f);skip
    by_cases u:p<s.id
    .by_cases w:s.id<h.next
     .by_cases A:0<=s.beg/\s.beg<1073741824
      .by_cases C:TpM s.tap
       .exact gP 6 Y (zyq (i:=i) Y Y Y Y Y Y Y (ziq sbW f)) (gF 11 Y (Zc not (ltI_iff.2 (u))) (gF 5 Y (Zc not (ltI_iff.2 (w))) (gC 4 Y (zrq (w':=.bool true) (ucq s.beg) (by rw[Zq (A)])) (gC 5 Y (zrq (w':=.int .i64 0) (Qdq s.tap J) (by rw[Zl C])) (gF 0 Y zN (gWr 14 Y (gAg 2 Y ((i+1,s.id)) (⟨⟨F,(KWq f).symm⟩,λj M z H=>by rcases ZC.1 M with q|rfl;exact E j q z H;have:=ZA (f.symm.trans H);subst this;rw[<-D];exact⟨⟨⟨u,w⟩,A⟩,C⟩⟩) (by show h.subs.length-(i+1)<h.subs.length-i;omega))))))))
       .exact gP 6 Y (zyq (i:=i) Y Y Y Y Y Y Y (ziq sbW f)) (gF 11 Y (Zc not (ltI_iff.2 (u))) (gF 5 Y (Zc not (ltI_iff.2 (w))) (gC 4 Y (zrq (w':=.bool true) (ucq s.beg) (by rw[Zq (A)])) (gC 5 Y (zrq (w':=.int .i64 8) (Qdq s.tap J) (by rw[Zg C])) (gT 0 Y (Zc not (eqI_not.2 Xg)) (gO 13 Y (gQ 2 Y (by rw[Zg (d λq=>C q.2)]))))))))
      .exact gP 6 Y (zyq (i:=i) Y Y Y Y Y Y Y (ziq sbW f)) (gF 11 Y (Zc not (ltI_iff.2 (u))) (gF 5 Y (Zc not (ltI_iff.2 (w))) (gC 4 Y (zrq (w':=.bool false) (ucq s.beg) (by rw[Zw (A)])) (gO 20 Y (gQ 2 Y (by rw[Zg (d λq=>A q.1.2)]))))))
     .exact gP 6 Y (zyq (i:=i) Y Y Y Y Y Y Y (ziq sbW f)) (gF 11 Y (Zc not (ltI_iff.2 (u))) (gT 5 Y (Zc not (ltI_not.2 (w))) (gO 25 Y (gQ 2 Y (by rw[Zg (d λq=>w q.1.1.2)])))))
    .exact gP 6 Y (zyq (i:=i) Y Y Y Y Y Y Y (ziq sbW f)) (gT 11 Y (Zc not (ltI_not.2 (u))) (gO 31 Y (gQ 2 Y (by rw[Zg (d λq=>u q.1.1.1)]))))
   .have yes:HbM h:=⟨⟨B,I⟩,λj s f=>E j (by have:=yGq f;omega) s f⟩;exact gO 2 Y (gQ 8 Y Yp)
  .skip
   exact gI 11 Y (λR G=>gC 0 Y (zrq (w':=.bool true) (ucq h.next) (by rw[Zq (B)])) (gZ 4 Y e (gT 0 Y (ltI_iff.2 Xd) (gQ 11 Y (by rw[Zg λq:HbM h=>I q.1.2])))))
 .skip
  exact gI 11 Y (λR G=>gC 0 Y (zrq (w':=.bool false) (ucq h.next) (by rw[Zw (B)])) (gQ 17 Y (by rw[Zg λq:HbM h=>B q.1.1])))
end
section
attribute [local irreducible] CoW OpW FlW aeq ajq
variable {G:Nat->Option W}
def atE(k:Dig)(n:Nat):Nat:=kn k 31%n
theorem h4q(k:Dig)(m:Nat)(a:m<=7):PS cfg G 97 [dW k,.int .i64 ((m+1:Nat):Int)] (.tup [.int .i64 (atE k (m+1):Nat),.int .i64 0]):=by
 have c:=Ziq k 31;exact gI 11 Y (λR b=>gF 0 Y (ltI_not.2 Xd) (gF 2 Y (ltI_not.2 Xd) (gX 8 Y (gM 0 Y (zwq Y Y Y (ldq k (i:=31) Xd)) (gWr 0 Y (gV (w':=.int .i64 ((atE k (m+1):Nat):Int)) 1 Y (Zc (W.int .i64) (Kqq (kn k 31) (m+1))) (gQa 5 Y)))))))
def t7q(n i:Nat)(l:Ln):Prop:=atE l.who n≠i
instance(n i:Nat)(l:Ln):Decidable (t7q n i l):=Classical.propDecidable _
instance(n i:Nat)(s:Shd):Decidable (∃l∈s,t7q n i l):=Classical.propDecidable _
theorem nkq(l:Ln)(a:List Shd)(j:1<=a.length/\a.length<=8)(i:Nat)(r:i<a.length):PS cfg G 116 [lnW l,.fel (plW a),.fel (.int .i64 (i:Int))] (.bool (decide (t7q a.length i l))):=by
 obtain⟨m,c⟩:∃m,a.length=m+1:=⟨a.length-1,by omega⟩
 have e:(a.map shdW).length=m+1:=by rw[Ze,c]
 rw[c];by_cases h:atE l.who (m+1)=i
 .skip
  exact gI 11 Y (λR d=>gZ 0 Y e (gC 0 Y (h4q l.who m Xd) (gF 11 Y (Zc not (eqI_iff.2 Xd)) (gQ 4 Y (uHq λq=>q h)))))
 .skip
  exact gI 11 Y (λR d=>gZ 0 Y e (gC 0 Y (h4q l.who m Xd) (gT 11 Y (Zc not (eqI_not.2 Xd)) (gQ 4 Y (Xhq h)))))
def PlM(a:List Shd):Prop:=(1<=a.length/\a.length<=8)/\∀(i:Nat) s,a[i]? =some s->ShM s/\¬∃l∈s,t7q a.length i l
instance(a:List Shd):Decidable (PlM a):=Classical.propDecidable _
theorem h2q(d:List Shd)(V:∀s∈d,s.length<=1000000000/\∀l∈s,OkL l):PS cfg glK 60 [plW d] (.int .i64 (if PlM d then 0 else 8)):=by
 have e:(d.map shdW).length=d.length:=Ze _;have F:=jwq d;by_cases w:1<=d.length
 .by_cases A:d.length<=8
  .skip
   refine gI 10 Y (λR L=>gZ 0 Y e (gF 0 Y (ltI_not.2 Xd) (gZ 2 Y e (gF 0 Y (ltI_not.2 Xd) (gZ 10 Y e ?_)))));refine gLo (α:=Nat) 4 (λi=>i<=d.length/\∀(j:Nat) s,j<i->d[j]? =some s->ShM s/\¬∃l∈s,t7q d.length j l) (λi=>[(15,.int .i64 (i:Int))]) [1,2,13,14] (λi=>d.length-i) (0) rfl (⟨Zf _,λj s h=>by omega⟩) (λi P=>?_);obtain⟨Z,O⟩:=P;refine gS 6 Y (λX=>?_) (λX=>?_)
   .have K:i<d.length:=by omega
    obtain⟨s,m⟩:∃s,d[i]? =some s:=⟨_,Za K⟩
    obtain⟨T,I⟩:=V s (Zj m);have J:=Bxq (G:=glK) s false 116 [.fel (plW d),.fel (.int .i64 (i:Int))] Qz (t7q d.length i) (λl _=>nkq l d ⟨w,A⟩ i K) rfl T;have H:=qEq s;have N:∀{E:HpW} {b:Nat},amq E 0=some (plW d) ->amq E b=some (.int .i64 (i:Int)) ->ViewL (amq E) [.fz (s.map lnW) 33 false,.fn 116 [] [.ptr 0 0,.ptr b 0]] [.fz (s.map lnW) 33 false,.fn 116 [] [.fel (plW d),.fel (.int .i64 (i:Int))]]:=λU S=>.cons (.pur H) (.cons (.fn .nil (.cons (y5q U F rfl) (.cons (y5q S Y Y) .nil))) .nil)
    have C:acq [.fz (s.map lnW) 33 false,.fn 116 [] [.fel (plW d),.fel (.int .i64 (i:Int))]]=true:=by simp[acq,aaq]
    skip
    by_cases B:ShM s
    .by_cases D:∃l∈s,t7q d.length i l
     .exact gP 7 Y (zyq (i:=i) Y Y Y Y Y Y Y (ziq shdW m)) (gC 10 Y (zrq (w':=.int .i64 0) (vZq s I Xd) (by rw[Zl B])) (gF 0 Y zN (zbq 4 Y (vcq Y Y Y Y Y (N Y Y) (zrq (w':=.bool true) J (by rw[Zq D])) C Y (zeq 12 Y (gO 0 Y (gQ 2 Y (by rw[Zg λq:PlM d=>(q.2 i s m).2 D]))))))))
     .exact gP 7 Y (zyq (i:=i) Y Y Y Y Y Y Y (ziq shdW m)) (gC 10 Y (zrq (w':=.int .i64 0) (vZq s I Xd) (by rw[Zl B])) (gF 0 Y zN (zbq 4 Y (vcq Y Y Y Y Y (N Y Y) (zrq (w':=.bool false) J (by rw[Zw D])) C Y (zeq 8 Y (gWr 0 Y (gAg 2 Y (i+1) (⟨by omega,λj z Q M=>by rcases ZC.1 Q with q|rfl;exact O j z q M;have:=ZA (m.symm.trans M);subst this;exact⟨B,D⟩⟩) Xd)))))))
    .exact gP 7 Y (zyq (i:=i) Y Y Y Y Y Y Y (ziq shdW m)) (gC 10 Y (zrq (w':=.int .i64 8) (vZq s I Xd) (by rw[Zg B])) (gT 0 Y (Zc not (eqI_not.2 Xg)) (gO 17 Y (gQ 2 Y (by rw[Zg λq:PlM d=>B (q.2 i s m).1])))))
   .have yes:PlM d:=⟨⟨w,A⟩,λj s m=>O j s (by have:=yGq m;omega) m⟩;exact gO 2 Y (gQ 8 Y Yp)
  .skip
   exact gI 10 Y (λR L=>gZ 0 Y e (gF 0 Y (ltI_not.2 Xd) (gZ 2 Y e (gT 0 Y (ltI_iff.2 Xd) (gQ 11 Y (by rw[Zg λq:PlM d=>A q.1.2]))))))
 .skip
  exact gI 10 Y (λR L=>gZ 0 Y e (gT 0 Y (ltI_iff.2 Xd) (gQ 15 Y (by rw[Zg λq:PlM d=>w q.1.1]))))
structure Ru where
 (shards:Int) (cap:Int) (block:Int) (window:Int) (tap:Int) (subs:Int) (box:Dig)
def ruG(r:Ru):W:=.agg 38 [.int .i64 r.shards,.int .i64 r.cap,.int .i64 r.block,.int .i64 r.window,.int .i64 r.tap,.int .i64 r.subs,dW r.box]
@[simp] theorem jHq(r:Ru):aaq (ruG r)=true:=by simp[ruG]
def okU(r:Ru):Prop:=(1<=r.shards/\r.shards<=8)/\(1<=r.cap/\r.cap<=64)/\(1<=r.block/\r.block<=16)/\(1<=r.window/\r.window<=64)/\(1<=r.tap/\r.tap<=64)/\(1<=r.subs/\r.subs<=16)
instance(r:Ru):Decidable (okU r):=Classical.propDecidable _
theorem kCq(n m:Int):PS cfg G 40 [.int .i64 n,.int .i64 m] (.bool (decide (1<=n/\n<=m))):=by
 refine gI 8 Y (λR g=>?_);refine gD 0 Y (λd=>?_) (λd=>?_)
 .refine gU 3 Y ?_;exact gQ 5 Y Qp
 .exact gQ 9 Y Qp
theorem keq(r:Ru):PS cfg G 20 [ruG r] (.int .i64 (if okU r then 0 else 8)):=by
 refine gI 11 Y (λR l=>gC 0 Y (kCq _ _) ?_);refine gB 0 Y (λg=>?_) (λg=>?_)
 .refine gC 4 Y (kCq _ _) ?_;refine gB 0 Y (λh=>?_) (λh=>?_)
  .refine gC 5 Y (kCq _ _) ?_;refine gB 0 Y (λj=>?_) (λj=>?_)
   .refine gC 5 Y (kCq _ _) ?_;refine gB 0 Y (λd=>?_) (λd=>?_)
    .refine gC 5 Y (kCq _ _) ?_;refine gB 0 Y (λk=>?_) (λk=>?_)
     .refine gC 5 Y (kCq _ _) ?_;refine gS 4 Y (λb=>?_) (λb=>?_)
      .exact gQ 7 Y (by(try simp at b);first|rw[Zl (show okU r by unfold okU;omega)]|rw[Zg (show¬okU r by unfold okU;omega)])
      .exact gQ 8 Y (by(try simp at b);first|rw[Zl (show okU r by unfold okU;omega)]|rw[Zg (show¬okU r by unfold okU;omega)])
     .exact gQ 18 Y (by(try simp at b);first|rw[Zl (show okU r by unfold okU;omega)]|rw[Zg (show¬okU r by unfold okU;omega)])
    .exact gQ 24 Y (by(try simp at b);first|rw[Zl (show okU r by unfold okU;omega)]|rw[Zg (show¬okU r by unfold okU;omega)])
   .exact gQ 30 Y (by(try simp at b);first|rw[Zl (show okU r by unfold okU;omega)]|rw[Zg (show¬okU r by unfold okU;omega)])
  .exact gQ 36 Y (by(try simp at b);first|rw[Zl (show okU r by unfold okU;omega)]|rw[Zg (show¬okU r by unfold okU;omega)])
 .exact gQ 41 Y (by(try simp at b);first|rw[Zl (show okU r by unfold okU;omega)]|rw[Zg (show¬okU r by unfold okU;omega)])
end
section
attribute [local irreducible] CoW OpW FlW aeq ajq
structure Au where
 (ru:Ru) (vw:Vw) (pool:List Shd) (drawn:List Tx) (back:List Tx) (wait:List Depo) (count:Nat) (tells:List Eve) (hub:Hb)
def amW(a:Au):W:=.agg 52 [ruG a.ru,vwG a.vw,plW a.pool,.fz (a.drawn.map txW) 99 false,.fz (a.back.map txW) 99 false,.fz (a.wait.map pdW) 34 false,.int .u64 (a.count:Int),.fz (a.tells.map eveW) 100 false,hbW a.hub]
@[simp] theorem xhq(a:Au):aaq (amW a)=true:=by simp[amW,aaq,acq]
structure OkAu(a:Au):Prop where
 pool:∀s∈a.pool,s.length<=1000000000/\∀l∈s,OkL l
 drawn:∀x∈a.drawn,x.ok
 drawl:a.drawn.length<=1000000000
 back:∀x∈a.back,x.ok
 backl:a.back.length<=1000000000
 tells:a.tells.length<=1000000000
 subs:a.hub.subs.length<=4611686018427387903
 taps:∀s∈a.hub.subs,s.tap.items.length<=4611686018427387903
def wlq(e:Eve):Prop:=¬mlq e
instance(e:Eve):Decidable (wlq e):=Classical.propDecidable _
instance(l:List Eve):Decidable (∃e∈l,wlq e):=Classical.propDecidable _
structure AuM(V:Prop)(a:Au):Prop where
 ru:okU a.ru
 vw:V
 pool:PlM a.pool
 len:(a.pool.length:Int)=a.ru.shards
 block:(a.drawn.length:Int)<=a.ru.block
 drawn:¬∃x∈a.drawn,Uns x
 back:¬∃x∈a.back,Uns x
 odd:¬∃e∈a.tells,wlq e
 hub:HbM a.hub
instance(V:Prop)(a:Au):Decidable (AuM V a):=Classical.propDecidable _
theorem C5q(l:List Eve)(a:l.length<=1000000000):PS cfg glT 56 [.fz (l.map eveW) 100 false,.fn 57 [] []] (.bool (decide (∃e∈l,wlq e))):=
 Bzq l false 57 [] rfl wlq (λe _=>zrq (oUq e) (Zc W.bool (YZ.2 Iff.rfl))) rfl a
theorem lMq(a:Au)(w:OkAu a)(V:Prop) [Decidable V](v:PS cfg glT 59 [vwG a.vw] (.int .i64 (if V then 0 else 8))):PS cfg glT 25 [amW a] (.int .i64 (if AuM V a then 0 else 8)):=by
 have z:(a.pool.map shdW).length=a.pool.length:=Ze _;have A:(a.drawn.map txW).length=a.drawn.length:=Ze _;have d:=C5q a.tells w.tells;have f:=Yyq kkq (h2q a.pool w.pool);have j:=Yyq kkq (wFq a.drawn false w.drawn w.drawl);have r:=Yyq kkq (wFq a.back false w.back w.backl);have D:=K1q a.hub w.subs w.taps;by_cases c0:okU a.ru
 .by_cases c1:V
  .by_cases c2:PlM a.pool
   .by_cases m:(a.pool.length:Int)=a.ru.shards
    .by_cases F:(a.drawn.length:Int)<=a.ru.block
     .by_cases c5:¬∃x∈a.drawn,Uns x
      .by_cases B:¬∃x∈a.back,Uns x
       .by_cases C:¬∃e∈a.tells,wlq e
        .by_cases E:HbM a.hub
         .skip
          exact gI 10 Y (λR u=>gC 0 Y (zrq (w':=.bool false) (d) (by rw[Zw (C)])) (gC 8 Y (zrq (w':=.int .i64 0) (keq a.ru) Qg) (gF 0 Y zN (gC 3 Y (zrq (w':=.int .i64 0) (v) Qf) (gF 0 Y zN (gC 4 Y (zrq (w':=.int .i64 0) (f) Qu) (gF 0 Y zN (gZ 4 Y z (gF 3 Y (Zc not (eqI_iff.2 (m))) (gZ 4 Y A (gF 3 Y (ltI_not.2 Xd) (gC 4 Y (zrq (w':=.bool false) (j) Jg) (gC 4 Y (zrq (w':=.bool false) (r) (by rw[Zw (B)])) (gC 7 Y (zrq (w':=.int .i64 0) (D) (by rw[Zl E])) (gF 0 Y zN (gQ 12 Y (by rw[Zl (show AuM V a from⟨c0,c1,c2,m,F,c5,B,C,E⟩)])))))))))))))))))
         .skip
          exact gI 10 Y (λR u=>gC 0 Y (zrq (w':=.bool false) (d) (by rw[Zw (C)])) (gC 8 Y (zrq (w':=.int .i64 0) (keq a.ru) Qg) (gF 0 Y zN (gC 3 Y (zrq (w':=.int .i64 0) (v) Qf) (gF 0 Y zN (gC 4 Y (zrq (w':=.int .i64 0) (f) Qu) (gF 0 Y zN (gZ 4 Y z (gF 3 Y (Zc not (eqI_iff.2 (m))) (gZ 4 Y A (gF 3 Y (ltI_not.2 Xd) (gC 4 Y (zrq (w':=.bool false) (j) Jg) (gC 4 Y (zrq (w':=.bool false) (r) (by rw[Zw (B)])) (gC 7 Y (zrq (w':=.int .i64 8) (D) (by rw[Zg E])) (gT 0 Y (Zc not (eqI_not.2 Xg)) (gQ 11 Y (by rw[Zg (λq:AuM V a=>E q.hub)])))))))))))))))))
        .skip
         exact gI 10 Y (λR u=>gC 0 Y (zrq (w':=.bool true) (d) (by rw[Zq (Classical.not_not.1 C)])) (gC 8 Y (zrq (w':=.int .i64 0) (keq a.ru) Qg) (gF 0 Y zN (gC 3 Y (zrq (w':=.int .i64 0) (v) Qf) (gF 0 Y zN (gC 4 Y (zrq (w':=.int .i64 0) (f) Qu) (gF 0 Y zN (gZ 4 Y z (gF 3 Y (Zc not (eqI_iff.2 (m))) (gZ 4 Y A (gF 3 Y (ltI_not.2 Xd) (gC 4 Y (zrq (w':=.bool false) (j) Jg) (gC 4 Y (zrq (w':=.bool false) (r) (by rw[Zw (B)])) (gQ 20 Y (by rw[Zg (λq:AuM V a=>C q.odd)])))))))))))))))
       .skip
        exact gI 10 Y (λR u=>gC 0 Y d (gC 8 Y (zrq (w':=.int .i64 0) (keq a.ru) Qg) (gF 0 Y zN (gC 3 Y (zrq (w':=.int .i64 0) (v) Qf) (gF 0 Y zN (gC 4 Y (zrq (w':=.int .i64 0) (f) Qu) (gF 0 Y zN (gZ 4 Y z (gF 3 Y (Zc not (eqI_iff.2 (m))) (gZ 4 Y A (gF 3 Y (ltI_not.2 Xd) (gC 4 Y (zrq (w':=.bool false) (j) Jg) (gC 4 Y (zrq (w':=.bool true) (r) (by rw[Zq (Classical.not_not.1 B)])) (gQ 20 Y (by rw[Zg (λq:AuM V a=>B q.back)])))))))))))))))
      .skip
       exact gI 10 Y (λR u=>gC 0 Y d (gC 8 Y (zrq (w':=.int .i64 0) (keq a.ru) Qg) (gF 0 Y zN (gC 3 Y (zrq (w':=.int .i64 0) (v) Qf) (gF 0 Y zN (gC 4 Y (zrq (w':=.int .i64 0) (f) Qu) (gF 0 Y zN (gZ 4 Y z (gF 3 Y (Zc not (eqI_iff.2 (m))) (gZ 4 Y A (gF 3 Y (ltI_not.2 Xd) (gC 4 Y (zrq (w':=.bool true) (j) (by rw[Zq (Classical.not_not.1 c5)])) (gQ 25 Y (by rw[Zg (λq:AuM V a=>c5 q.drawn)]))))))))))))))
     .skip
      exact gI 10 Y (λR u=>gC 0 Y d (gC 8 Y (zrq (w':=.int .i64 0) (keq a.ru) Qg) (gF 0 Y zN (gC 3 Y (zrq (w':=.int .i64 0) (v) Qf) (gF 0 Y zN (gC 4 Y (zrq (w':=.int .i64 0) (f) Qu) (gF 0 Y zN (gZ 4 Y z (gF 3 Y (Zc not (eqI_iff.2 (m))) (gZ 4 Y A (gT 3 Y (ltI_iff.2 Xd) (gQ 30 Y (by rw[Zg (λq:AuM V a=>F q.block)])))))))))))))
    .skip
     exact gI 10 Y (λR u=>gC 0 Y d (gC 8 Y (zrq (w':=.int .i64 0) (keq a.ru) Qg) (gF 0 Y zN (gC 3 Y (zrq (w':=.int .i64 0) (v) Qf) (gF 0 Y zN (gC 4 Y (zrq (w':=.int .i64 0) (f) Qu) (gF 0 Y zN (gZ 4 Y z (gT 3 Y (Zc not (eqI_not.2 (m))) (gQ 39 Y (by rw[Zg (λq:AuM V a=>m q.len)])))))))))))
   .skip
    exact gI 10 Y (λR u=>gC 0 Y d (gC 8 Y (zrq (w':=.int .i64 0) (keq a.ru) Qg) (gF 0 Y zN (gC 3 Y (zrq (w':=.int .i64 0) (v) Qf) (gF 0 Y zN (gC 4 Y (zrq (w':=.int .i64 8) (f) (by rw[Zg c2])) (gT 0 Y (Zc not (eqI_not.2 Xg)) (gQ 48 Y (by rw[Zg (λq:AuM V a=>c2 q.pool)])))))))))
  .skip
   exact gI 10 Y (λR u=>gC 0 Y d (gC 8 Y (zrq (w':=.int .i64 0) (keq a.ru) Qg) (gF 0 Y zN (gC 3 Y (zrq (w':=.int .i64 8) (v) (by rw[Zg c1])) (gT 0 Y (Zc not (eqI_not.2 Xg)) (gQ 54 Y (by rw[Zg (λq:AuM V a=>c1 q.vw)])))))))
 .skip
  exact gI 10 Y (λR u=>gC 0 Y d (gC 8 Y (zrq (w':=.int .i64 8) (keq a.ru) (by rw[Zg c0])) (gT 0 Y (Zc not (eqI_not.2 Xg)) (gQ 59 Y (by rw[Zg (λq:AuM V a=>c0 q.ru)])))))
end
section
attribute [local irreducible] CoW OpW FlW aeq ajq
variable {G:Nat->Option W}
structure SmAu(a:Au):Prop where
 pool:a.pool.length<=1000000
 shards:∀s∈a.pool,s.length<=1000000000/\∀y∈s,y.txs.length<=1000000000
 drawn:a.drawn.length<=1000000000
 back:a.back.length<=1000000000
 wait:a.wait.length<=1000000000
 tells:a.tells.length<=1000000000
 subs:a.hub.subs.length<=1000000000
 taps:∀s∈a.hub.subs,s.tap.items.length<=1000000000
theorem oTq(a:Au)(b:SmAu a)(c:PS cfg G 63 [vwG a.vw] (vwG a.vw)):PS cfg G 27 [amW a] (amW a):=by
 have d:=pzq (G:=G) a.pool b.pool b.shards;have e:=pQq (G:=G) a.hub b.subs b.taps;exact gIv 10 Y (λR f=>gC 0 Y (c) (gC 2 Y (d) (gC 2 Y (e) (gC 12 Y (oDq a.drawn false b.drawn) (gC 2 Y (oDq a.back false b.back) (gC 2 Y (BFq a.wait false b.wait) (gC 2 Y (BEq a.tells false b.tells) (zbq 17 Y (y0q Jr rfl (.pur (xhq a)))))))))))
end
def oW(b e:Nat):Option (List W) ->W
 |none=>.nils
 |some l=>.sl b 0 0 l.length e none
def oH(b:Nat)(c:TypeId)(e:Nat):Option (List W) ->HpW
 |none=>[]
 |some l=>[(b,c,.arr (l.length*e) e l)]
def oA(o:Option (List W)):List W->Option (List W)
 |[]=>o
 |x::r=>some (o.getD []++x::r)
theorem pCq(o:Option (List W))(l:List W):(oA o l).getD []=o.getD []++l:=by
 cases l with
 |nil=>rw[ZT];rfl
 |cons x r=>rfl
theorem fFq(a:Nat->Nat)(b e:Nat)(o:Option (List W)):adq a (oW b e o)=oW (a b) e o:=by cases o<;>rfl
theorem m1q{n b e:Nat}{o:Option (List W)}(h:b<n):agq n (oW b e o)=true:=by
 cases o with
 |none=>rfl
 |some l=>simp[oW,agq,h]
theorem uoq(c:Nat->Nat)(b:Nat)(d:TypeId)(e:Nat){o:Option (List W)}(h:acq (o.getD [])=true):ahq c (oH b d e o)=oH (c b) d e o:=by
 cases o with
 |none=>rfl
 |some l=>
  have f:aaq (.arr (l.length*e) e l)=true:=h;simp only[oH,ahq,zdq f]
theorem qNq{b e:Nat}{c:TypeId}{o:Option (List W)}:∀p∈oH b c e o,p.1=b:=λp a=>by
 cases o with
 |none=>cases a
 |some l=>simp only[oH,ZB,ZW,or_false] at a;rw[a]
def oIn(c:HpW)(b:Nat)(d:TypeId)(e:Nat)(o:Option (List W)):Prop:=∀l,o=some l->hget c b=some (d,.arr (l.length*e) e l)
theorem qhq{P:HpW}{b e:Nat}{a:TypeId}{o:Option (List W)}(h:∀p∈P,p.1≠b):oIn (P++oH b a e o) b a e o:=λl c=>by
 subst c;exact YXq h
theorem Qbq{d:HpW}{b e:Nat}{g:TypeId}{o:Option (List W)}(k:0<e)(j:acq (o.getD [])=true)(h:oIn d b g e o):View (amq d) (oW b e o) (.fz (o.getD []) e false):=by
 cases o with
 |none=>exact .nilfz
 |some l=>exact .sl (c:=.arr (l.length*e) e l) (by unfold amq;rw[h l rfl]) j (zqq k Y Y) Xj
theorem rPq{c:Nat->Nat}{n:Nat}{g:HpW}{b e:Nat}{d:TypeId}{o:Option (List W)}(i:b<n)(j:acq (o.getD [])=true)(h:oIn g (c b) d e o):Jqq c n g (oH b d e o):=by
 cases o with
 |none=>trivial
 |some l=>
  have f:aaq (.arr (l.length*e) e l)=true:=j;exact⟨⟨i,by rw[zdq f];exact h l rfl,zaq f⟩,trivial⟩
theorem bhq{d:HpW}{b e n:Nat}{c:TypeId}{o:Option (List W)}(f:b<n)(g:acq (o.getD [])=true)(h:oIn d b c e o):coq d n (oH b c e o):=by
 cases o with
 |none=>trivial
 |some l=>
  have i:aaq (.arr (l.length*e) e l)=true:=g;exact⟨⟨f,h l rfl,zaq i⟩,trivial⟩
theorem q0q{P:HpW}{b e:Nat}{f:TypeId}{o:Option (List W)}(h:∀p∈P,p.1≠b)(g:(P.map (·.1)).Nodup):((P++oH b f e o).map (·.1)).Nodup:=by
 cases o with
 |none=>rw[show oH b f e none=[] from rfl,ZT];exact g
 |some l=>
  rw[show oH b f e (some l)=[(b,f,.arr (l.length*e) e l)] from rfl,Z4,List.nodup_append];refine⟨g,by simp,λa k c i q=>?_⟩;obtain⟨p,j,n⟩:=Z2.1 k;have:=h p j;simp only[ZD,List.map_nil,ZB,ZW,or_false] at i;omega
def hdO(b:Nat)(a:HpW):Option (List W) ->HpW
 |none=>a
 |some _=>ayq a b
def evO(b:Nat):Option (List W) ->EvW
 |none=>.gen
 |some _=>.updO b
section
variable {C:Cfg} {nw:Nat} {ts tx ty:TypeId} {j k:TyI} {x:W} {news:List W} {o:Option (List W)} {b:Nat} {hp:HpW}
theorem gcq{e:Nat}(F:e=k.size)(y:C.ty ts=some j)(z:j.d= .slice ty)(B:C.ty ty=some k)(m:Nat.beq k.size 0=false)(A:aNq C hp tx k.size x=some news)(v:news≠[])(p:((o.getD []).length+news.length)*k.bytes<=140737488355328)(q:(o.getD []).length+news.length<=70368744177664)(D:oIn hp b ty e o):
  ckq C hp nw ts tx (oW b e o) x=some (.sl nw 0 0 (o.getD []++news).length e none,(nw,ty,.arr ((o.getD []++news).length*e) e (o.getD []++news))::hdO b hp o,nw+1,evO b o):=by
 subst F
 have f:0<k.size:=by
  rcases YS k.size with u|u
  .rw[u] at m;cases m
  .exact u
 have E:0<news.length:=by cases news with
  |nil=>exact absurd rfl v
  |cons _ _=>simp
 cases o with
 |none=>
  simp only[YU,ZP,ZG] at p q;rw[show oW b k.size none= .nils from rfl,uOq y z B m A v p q];rfl
 |some l=>
  simp only[Option.getD_some] at p q
  rw[show oW b k.size (some l)= .sl b 0 0 l.length k.size none from rfl,qxq y z B m A v p q (D l rfl) (by
   show l.length*k.size<0+(l.length+news.length)*k.size;rw[ZG];exact Nat.mul_lt_mul_of_pos_right Xd f) (ZOq _) (zqq f Y Y)]
  rw[Option.getD_some,Zh];rfl
theorem BXq{e:Nat}(q:e=k.size)(a:C.ty ts=some j)(f:j.d= .slice ty)(m:C.ty ty=some k)(p:Nat.beq k.size 0=false)(h:aNq C hp tx k.size x=some []):ckq C hp nw ts tx (oW b e o) x=some (oW b e o,hp,nw,.gen):=by
 subst q;cases o with
 |none=>exact foq a f m p h
 |some l=>exact jDq a f m p h
end
theorem n5q{d:HpW}{b i:Nat}{o:Option (List W)}{y:TypeId×W}(g:i≠b)(h:hget d i=some y):hget (hdO b d o) i=some y:=by
 cases o with
 |none=>exact h
 |some l=>
  show hget (ayq d b) i=some y;induction d with
  |nil=>simp[hget] at h
  |cons p q f=>
   obtain⟨c,z⟩:=p;rw[zfq] at h;show hget (match Nat.beq c b with|true=>q|false=>(c,z)::ayq q b) i=_;cases e:Nat.beq c b with
   |true=>
    have:=Zi e;subst this;rw[Zg (λh=>g h.symm)] at h;exact h
   |false=>
    simp only;rw[zfq];split at h
    .rename_i q;rw[Zl q];exact h
    .rename_i q;rw[Zg q];exact f h
section
variable {fr:FrW} {hp:HpW}
theorem bbq{b:Nat->Nat}{n:Nat}(a:∀i,i<n->b i=i):∀{q:FrW},arq fr q->aPq n q->vNq b (n+1) fr q
 |[],_,_=>trivial
 |(t,w)::q,h,r=>⟨⟨by rw[vsq a r.1];exact h.1,xNq (YO _) r.1⟩,bbq a h.2 r.2⟩
theorem Jzq{c:Nat->Nat}{n:Nat}(a:∀i,i<n->c i=i):∀{q:HpW},coq hp n q->Jqq c (n+1) hp q
 |[],_=>trivial
 |(b,x)::q,h=>⟨⟨Nat.lt_succ_of_lt h.1.1,by rw[a b h.1.1,vsq a h.1.2.2];exact h.1.2.1,xNq (YO _) h.1.2.2⟩,Jzq a h.2⟩
end
structure AppQ(hp:HpW)(nw b:Nat)(ty:TypeId)(e:Nat)(u:Option (List W))(news:List W)(c:Nat)(hp':HpW)(nw':Nat):Prop where
 is:oIn hp' c ty e (oA u news)
 lt:c<nw'
 up:nw<=nw'
 old:∀i y,i≠b->i<nw->hget hp i=some y->hget hp' i=some y
 num:(news=[]/\c=b)\/(news≠[]/\c=nw)
theorem d1q{C:Cfg}{G:Nat->Option W}{o:Oper}{F:FrW}{D:HpW}{E:Nat}{R:Res}{j:W->HpW->Nat->Res->Option EvW->Prop}(b:Nat){x y:Operand}{Q H:TypeId}(S:o.op= .call ⟨.builtin .append, #[x,y], #[Q,H]⟩)(h:aeq C G o F D E R λw k z R' ev=>ev=some .gen/\j w k z R' (some (.updO b))):aeq C G o F D E R j:=λJ X A B s M=>by
 obtain⟨n,w,k,R',ev,v,K,Γ',X',⟨rfl,T⟩,U,⟨L,m⟩,I⟩:=h J X A B s M
 exact⟨n,w,k,R',some (.updO b),v,K,Γ',X',T,U,⟨L,λH1 P N=>by
  rcases m H1 P N with q|⟨c,q⟩
  .exact .inl q
  .exfalso
   rw[S] at q;revert q
   simp only[auq];split
   .intro q;cases q
   .split
    .intro q;cases q
    .intro q;cases q⟩,I⟩
theorem g6q{C:Cfg}{G:Nat->Option W}{F:FrW}{m:HpW}{f:Nat}{R:Res}{o:Oper}{Q K A:TypeId}{j k:TyI}{x y:Operand}{v:W}{u:Option (List W)}{news:List W}{b e:Nat}{w:W->HpW->Nat->Res->Option EvW->Prop}(I:o.op= .call ⟨.builtin .append, #[x,y], #[Q,K]⟩)(U:evW C G F x=some (oW b e u))(H:evW C G F y=some v)
  (S:e=k.size) (L:C.ty Q=some j) (P:j.d= .slice A) (V:C.ty A=some k) (N:Nat.beq k.size 0=false) (T:aNq C m K k.size v=some news) (h1:((u.getD []).length+news.length)*k.bytes<=140737488355328) (h2:(u.getD []).length+news.length<=70368744177664) (M:oIn m b A e u) (Z:b<f)
  (h:∀c D E,AppQ m f b A e u news c D E->w (oW c e (oA u news)) D E R (some (.updO b))):aeq C G o F m f R w:=by
 cases news with
 |nil=>
  have J:aDq C G F m f o.op=some (oW b e u,m,f,.gen):=by rw[I];exact yLq U H (BXq S L P V N T)
  exact d1q b I (jTq J ⟨rfl,h b m f ⟨M,Z,Zb _,λ_ _ _ _ h=>h,.inl ⟨rfl,rfl⟩⟩⟩)
 |cons z B=>
  have J:aDq C G F m f o.op=some (.sl f 0 0 (u.getD []++z::B).length e none,(f,A,.arr ((u.getD []++z::B).length*e) e (u.getD []++z::B))::hdO b m u,f+1,evO b u):=by
   rw[I];exact yLq U H (gcq S L P V N T Xi h1 h2 M)
  have q:AppQ m f b A e u (z::B) f ((f,A,.arr ((u.getD []++z::B).length*e) e (u.getD []++z::B))::hdO b m u) (f+1):=⟨λl X=>by cases X;rw[zfq,Zl rfl],YG _,YO _,λi y Y hn H=>by rw[zfq,Zg Xd];exact n5q Y H,.inr ⟨by simp,rfl⟩⟩;cases u with
  |none=>exact d1q b I (jTq J ⟨rfl,h _ _ _ q⟩)
  |some l=>exact jTq J (h _ _ _ q)
theorem yXq{C:Cfg}{G:Nat->Option W}{o:Oper}{A:FrW}{t:HpW}{x:Nat}{R:Res}{c:W->HpW->Nat->Res->Option EvW->Prop}(h:aeq C G o A t x R λw g j R' ev=>∃b:HpW,(∀k y,hget b k=some y->hget g k=some y)/\(b.map (·.1)).Nodup/\c w b j R' ev):aeq C G o A t x R c:=λF X m q s L=>by
 obtain⟨n,w,g,R',ev,v,H,Γ',X',⟨b,a,M,S⟩,T,I,B,J,f,D,P⟩:=h F X m q s L;exact⟨n,w,b,R',ev,v,H,Γ',X',S,T,I,B,J,⟨f.wf,λk O w h=>f.own k O w (a _ _ h),λk Q y z E K e=>f.inj k Q _ _ (a _ _ E) (a _ _ K) e,M,f.dX,f.xlt,f.dlt,f.res,f.gl⟩,D.trans ⟨λ_ _=>rfl,λh=>h,Zb _,λ_ _ _ _=>rfl,λ_ h=>h,λ_ h=>.inl h,λk y _ h=>⟨y,a _ _ h⟩,λk y U h=>.inr ⟨k,y,U,a _ _ h,rfl⟩,λ_ h=>.inl h,λ_ h _ _=>h⟩,P⟩
theorem iKq{A:HpW}{b e:Nat}{c:TypeId}{o:Option (List W)}(h:∀p∈A,p.1≠b):∀k y,hget (A++oH b c e o) k=some y->hget (oH b c e o++A) k=some y:=λk y a=>by
 cases o with
 |none=>rwa[show oH b c e none=[] from rfl,ZT] at a
 |some l=>
  rw[qoq] at a;show hget ((b,_)::A) k=some y;rw[zfq];by_cases q:b=k
  .subst q;rw[yPq h] at a;have a:hget [(b,(c,W.arr (l.length*e) e l))] b=some y:=a;rw[zfq,Zl rfl] at a;rw[Zl rfl];exact a
  .rw[Zg q];cases d:hget A k with
   |some z=>rw[d] at a;exact a
   |none=>
    rw[d] at a;have a:hget [(b,(c,W.arr (l.length*e) e l))] k=some y:=a;rw[zfq,Zg q] at a;simp[hget] at a
theorem Xgq{b:Nat}:∀{l:List Nat} {a:HpW},(∀k∈l,k≠b) ->hget (aRq l a) b=hget a b
 |[],_,_=>rfl
 |k::l,a,h=>by
  show hget (aRq l (ayq a k)) b=_;rw[Xgq λj c=>h j (ZS _ c),uxq (h k (ZV ..))]
theorem ycq{A:HpW}{b:Nat}{l:List Nat}(h:A.map (·.1)=l)(a:b∉l):∀p∈A,p.1≠b:=λp c e=>a (h▸Z2.2 ⟨p,c,e⟩)
theorem xXq{A:HpW}{n:Nat}{l:List Nat}(h:A.map (·.1)=l)(a:∀k∈l,k<n):∀p∈A,p.1<n:=λp b=>a _ (h▸Z2.2 ⟨p,b,rfl⟩)
section
variable {hp Q:HpW} {b k e e':Nat} {ty ty':TypeId} {o o':Option (List W)} {y:TypeId×W}
theorem zSq(c:k≠b)(h:oIn hp b ty e o):oIn ((k,y)::hp) b ty e o:=λl a=>by rw[zfq,Zg c];exact h l a
theorem k5q:oIn (oH b ty e o) b ty e o:=λl a=>by
 subst a;show hget ((b,_)::[]) b=_;rw[zfq,Zl rfl]
theorem daq{d:Nat}{z x:TypeId×W}(a:d≠b)(f:hget hp d=some x)(h:oIn hp b ty e o):oIn (apq hp d z) b ty e o:=λl c=>by
 rw[kNq f,Zg a];exact h l c
theorem Djq{ext:List Nat}{g i:Nat}(d:ext[i]? =some b)(f:acq (o.getD [])=true)(h:oIn hp b ty e o):s3q ext g hp (oH i ty e o):=by
 cases o with
 |none=>trivial
 |some l=>
  have c:aaq (.arr (l.length*e) e l)=true:=f;exact⟨⟨(Zk.1 d).1,zaq c,b,d,by rw[zdq c];exact h l rfl⟩,trivial⟩
end
section
attribute [local irreducible] CoW OpW FlW aeq ajq
variable {G:Nat->Option W}
theorem BCq(l:List Tx)(f:Bool)(y:l.length<=1000000000):zUq cfg G 66 0 [.fz (l.map txW) 99 f] [] λw j v=>(∃o:Option (List W),o.getD []=l.map txW/\w=oW 0 99 o/\j=oH 0 92 99 o)/\v=1:=by
 intro R;have e:(l.map txW).length=l.length:=Ze _;have j:∀l:List Tx,acq (l.map txW)=true:=yvq qYq
 refine gIs 9 Y (λA=>?_);first|refine z5q Y Y ?_|refine zhq rfl (qDq Y Y Y Y Y (λu x=>?_))
 refine zeq 2 Y ?_;refine gS 0 Y (λq=>?_) (λq=>?_)
 .cases u with
  |false=>cases q
  |true=>
   obtain rfl:l=[]:=List.map_eq_nil_iff.1 (x rfl);exact zHq 7 Y (fin Jr (e1q (fr2:=[(2,.nils)]) ⟨rfl,trivial⟩) rfl ⟨rfl,⟨none,rfl,rfl,rfl⟩,rfl⟩)
 .cases l with
  |nil=>
   skip
   exact zHq 6 Y (gM 0 Y (yLq Y Y (jDq Y Y Y Y Y)) (zbq 4 Y (fin Jr Ent.refl rfl ⟨rfl,⟨some [],rfl,rfl,rfl⟩,rfl⟩)))
  |cons c l=>
   have d:aaq (.arr (((c::l).map txW).length*99) 99 ((c::l).map txW))=true:=j (c::l);refine zHq 6 Y (gM 0 Y (yLq Y Y (qxq (len:=0) (news:=(c::l).map txW) (olds:=[]) (k:=wKq) Y Y Y Y Y Xi (by show(0+((c::l).map txW).length)*120<=_;rw[e];omega) Yk rfl (by show 0<0+(0+((c::l).map txW).length)*99;rw[e];simp only[Zo];omega) Y Y)) (zbq 4 Y ?_));refine fin Jr (yiq (b:=0) (k:=1) (fr2:=[(2,oW 0 99 (some ((c::l).map txW)))]) (hp2:=oH 0 92 99 (some ((c::l).map txW))) Xd Xd Ql ⟨⟨?_,rfl⟩,trivial⟩ ⟨⟨by omega,?_,zaq d⟩,trivial⟩ (by simp[oH])) rfl ⟨rfl,⟨some ((c::l).map txW),rfl,rfl,rfl⟩,rfl⟩
   .show some (W.sl 1 0 0 (0+((c::l).map txW).length) 99 none)=some (W.sl 1 0 0 ((c::l).map txW).length 99 none);rw[ZG]
   .rw[zdq d];show some (92,W.arr ((0+((c::l).map txW).length)*99) 99 ([]++(c::l).map txW))=some (92,W.arr (((c::l).map txW).length*99) 99 ((c::l).map txW));rw[ZG];rfl
end
theorem xrq{b:Nat}:∀{a:HpW} {c:Nat},c≠b->hget (ayq a b) c=hget a c
 |[],c,_=>rfl
 |(k,x)::l,c,h=>by
  simp only[ayq];cases e:Nat.beq k b with
  |true=>
   have:=Zi e;subst this;simp only;rw[zfq,Zg (λq=>h q.symm)]
  |false=>
   simp only;rw[zfq,zfq,xrq h]
section
variable {C:Cfg} {G:Nat->Option W} {Γ:Ctx} {X:Nat->Prop} {R:Res}
theorem Els.one{e:Nat}{x:W}{u:V}(f:RS Γ x (zmq u))(b:x.size=e)(a:u.size=e)(d:u.leaf=true\/u.isAgg=true):Els Γ e [x] [u]:=by
 refine⟨rfl,by simpa using b,by simpa using ⟨a,d⟩,?_⟩;have c:(zmq u).length=e:=by rw[y8q,a]
 have:yaq e [u]=zmq u++[]:=by
  simp only[yaq];rw[yqq c]
 rw[this];exact qtq f (by simp[RSL])
theorem Els.split{e:Nat}:∀{c:List W} {b:List V} (i:Nat),Els Γ e c b->Els Γ e (c.take i) (b.take i)/\Els Γ e (c.drop i) (b.drop i)
 |[],b,i,h=>by
  have:b=[]:=ZZ.1 (by rw[h.len];rfl);subst this;simp only[List.take_nil,List.drop_nil];exact⟨Els.nil _,Els.nil _⟩
 |x::l,b,0,h=>by
  simp only[List.take_zero,ZX];exact⟨Els.nil _,h⟩
 |x::l,b,i+1,h=>by
  have f:=h.sz x (ZV ..);obtain⟨u,k,rfl,j,q,r,m⟩:=h.cons;obtain⟨o,g⟩:=Els.split i m;simp only[List.take_succ_cons,List.drop_succ_cons];exact⟨(Els.one j f q r).append o,g⟩
theorem Dgq{F:FuncId}{D p:TypeId}{K BY:Nat}(hk:C.known F=some (aGq C D p K BY)){j:TyI}(hj:C.ty D=some j)(hd:j.d= .slice p)(hK:Nat.blt 0 K=true){b q:List W}{z x:W}{n m i:Nat}(hs0:ymq 50 z 0 n K=some b)(Y:ymq 50 x 0 m K=some q)(hi:i<n)(hm:0<m)
  (hb:(n+m)*BY<=140737488355328) (hb2:n+m<=70368744177664):
  zUq C G F 2 [.sl 0 0 0 n K none,.int .i64 (i:Int),.sl 1 0 0 m K none] [(0,p,z),(1,p,x)]
   λw P Q=>w= .sl 2 0 0 (n+m) K none/\P=[(2,p,.arr ((n+m)*K) K (b.take i++(q++b.drop i))),(1,p,x)]/\Q=3:=λR Γ X vs u s hv=>by
 obtain⟨v0,vs1,rfl,hv0,hv1⟩:=RVL_cons.1 hv;obtain⟨v1,vs2,rfl,L,hv2⟩:=RVL_cons.1 hv1;obtain⟨v2,vs3,rfl,S,Z⟩:=RVL_cons.1 hv2;obtain rfl:=RVL_nil.1 Z;obtain⟨hb0,rfl⟩:=RV_sl.1 hv0;obtain rfl:=RV_int.1 L;obtain⟨hb1,rfl⟩:=RV_sl.1 S;have hK0:0<K:=by simpa using hK
 have A:hget [(0,p,z),(1,p,x)] 0=some (p,z):=rfl;have J:hget [(0,p,z),(1,p,x)] 1=some (p,x):=rfl;obtain⟨bv,q1,q2,q3⟩:=jeq s A;obtain⟨nv,p1,p2,p3⟩:=jeq s J;obtain⟨v,g1,ho,g3⟩:=vqq q3 hs0;obtain⟨B,f1,hn,V⟩:=vqq p3 Y
 have U:Γ.σ 1≠Γ.σ 0:=λe=>by
  have:=s.inj 1 0 _ _ J A e;cases this
 have hml:(n+m)*K=(v.take i++(B++v.drop i)).length*K:=by
  congr 1
  simp only[Zh,Zu,Zy,g3.len,V.len];omega
 have hwl:(b.take i++(q++b.drop i)).length=n+m:=by
  simp only[Zh,Zu,Zy];omega
 obtain⟨e1,e2⟩:=g3.split i
 have ha:RV Γ (.arr ((n+m)*K) K (b.take i++(q++b.drop i))) (.arr ((n+m)*K) K (v.take i++(B++v.drop i))):=by
  have:=(e1.append (V.append e2)).arr;rw[hwl,<-hml] at this;exact this
 have E:aGq C D p K BY [.sl (Γ.σ 0) 0 0 n K none,.int .i64 (i:Int),.sl (Γ.σ 1) 0 0 m K none] Γ.h=some (.sl Γ.h.next 0 0 (n+m) K none,(Γ.h.push (.cells p (.arr ((n+m)*K) K (v.take i++(B++v.drop i))))).kill (Γ.σ 0)):=by
  show aGq C D p K BY [.sl (Γ.σ 0) 0 0 n K none,.int .i64 (.ofNat i),.sl (Γ.σ 1) 0 0 m K none] Γ.h=_
  have M:giq C Γ.h D K (.sl (Γ.σ 1) 0 0 m K none)=some B:=by
   unfold giq;rw[hj];simp only[hd,p2,show Nat.beq K K=true by simp];exact f1
  have hin:Nat.beq i n=false:=by
   cases hq:Nat.beq i n with
   |true=>have:=Zi hq;omega
   |false=>rfl
  have hn1:Nat.beq (Γ.σ 1) (Γ.σ 0)=false:=by
   cases hq:Nat.beq (Γ.σ 1) (Γ.σ 0) with
   |true=>exact absurd (Zi hq) U
   |false=>rfl
  have hlt:Nat.blt i n=true:=by simpa using hi
  cases B with
  |nil=>have:=V.len;simp only[ZP] at this;omega
  |cons y ys=>
   simp only[aGq,M,hin,hlt,show Nat.beq K K=true by simp,hn1,Zn hb,Zn hb2,hK,Bool.and_self,Bool.not_false,q1,p1,show Nat.beq p p=true by simp,g1]
 have n1:=v8q s (ty:=p) ha;have O:=Qtq s (.cells p (.arr ((n+m)*K) K (v.take i++(B++v.drop i))))
 have I:hget ((Γ.nw,p,W.arr ((n+m)*K) K (b.take i++(q++b.drop i)))::[(0,p,z),(1,p,x)]) 0=some (p,z):=by
  rw[zfq,Zg Xd];exact A
 obtain⟨le2,n2,f2⟩:=KXq n1.1 I;have H:(Γ.push (.cells p (.arr ((n+m)*K) K (v.take i++(B++v.drop i))))).σ 0=Γ.σ 0:=O.σ 0 hb0
 have T:ayq ((Γ.nw,p,W.arr ((n+m)*K) K (b.take i++(q++b.drop i)))::[(0,p,z),(1,p,x)]) 0=[(Γ.nw,p,W.arr ((n+m)*K) K (b.take i++(q++b.drop i))),(1,p,x)]:=by
  rw[u];rfl
 rw[T,H] at n2 f2;rw[H] at le2;refine⟨1,.sl Γ.h.next 0 0 (n+m) K none,_,X,.sl Γ.nw 0 0 (n+m) K none,_,R,?_,n2,by rw[<-u];exact n1.2.trans (f2.le (m':=Γ.nw) (YO _) (Zb _)),RV_sl.2 ⟨YG _,by simp[Ctx.push]⟩,rfl,by rw[u],by rw[u],by show Γ.nw+1=3;rw[u]⟩;simp only[y9q,hk,E];rfl
theorem bTq{F:FuncId}{H T:TypeId}{K BY:Nat}(hk:C.known F=some (aGq C H T K BY)){s x:W}{i nw M vb d g m:Nat}{j:Option Nat}{Y A:HpW}{a w:W}{l:List W}{ev:EvW}(hx:x= .sl vb d g m K j)(L:aNq C Y H K x=some (a::l))(h:ckq C Y nw H H s x=some (w,A,M,ev))
  (hs:(s= .nils/\i=0)\/(∃b k D B,s= .sl b k D i K B)\/(s= .fz [] K true/\i=0)):
  zUq C G F nw [s,.int .i64 (i:Int),x] Y λw2 hp2 U=>w2=w/\hp2=A/\U=M:=λR Γ X vs Z J hv=>by
 subst hx;subst Z;obtain⟨v0,vs1,rfl,y,hv1⟩:=RVL_cons.1 hv;obtain⟨v1,vs2,rfl,Q,S⟩:=RVL_cons.1 hv1;obtain⟨v2,vs3,rfl,E,hv3⟩:=RVL_cons.1 S;obtain rfl:=RVL_nil.1 hv3;obtain rfl:=RV_int.1 Q;obtain⟨V,O,g2⟩:=cOq J E L;obtain⟨v,h',Γ',P,f2,_⟩:=lSq J y E h;obtain⟨hb1,rfl⟩:=RV_sl.1 E
 obtain⟨u,q,rfl⟩:∃u q,V=u::q:=by
  cases V with
  |nil=>have:=g2.len;simp at this
  |cons u q=>exact⟨u,q,rfl⟩
 have I:aGq C H T K BY [v0,.int .i64 (i:Int),.sl (Γ.σ vb) d g m K j] Γ.h=some (v,h'):=by
  show aGq C H T K BY [v0,.int .i64 (.ofNat i),.sl (Γ.σ vb) d g m K j] Γ.h=_;rcases hs with ⟨rfl,rfl⟩|⟨b,k,D,B,rfl⟩|⟨rfl,rfl⟩
  .obtain rfl:=RV_nils.1 y;simp only[aGq,O,show Nat.beq 0 0=true by rfl];exact P
  .obtain⟨_,rfl⟩:=RV_sl.1 y;simp only[aGq,O,show Nat.beq i i=true by simp];exact P
  .rcases k0q y with ⟨_,rfl⟩|⟨b,k,D,B,bv,V,rfl,_⟩
   .simp only[aGq,O,show Nat.beq 0 0=true by rfl];exact P
   .simp only[aGq,O,ZP,show Nat.beq 0 0=true by rfl];exact P
 obtain⟨o1,o2,o3,o4,o5,o6⟩:=f2;subst o1;refine⟨1,v,Γ',X,w,A,R,?_,o4,o5,o6,rfl,rfl,rfl,o2⟩;simp only[y9q,hk,I]
theorem d3q{o:Oper}{fr:FrW}{T:HpW}{D:Nat}{J:W->HpW->Nat->Res->Option EvW->Prop}{x:Operand}{xs:Array Operand}{ats:Array TypeId}{F:FuncId}{ts g:TypeId}{K BY:Nat}(hk:C.known F=some (aGq C ts g K BY)){j k:TyI}(U:C.ty ts=some j)(hd:j.d= .slice g)(hkt:C.ty g=some k)(E:k.size=K)(Z:k.bytes=BY)(hK:Nat.blt 0 K=true)
  {olds news:List W} {ob M:W} {n m i b q:Nat} (nn:Bool) (ho:o.op= .call ⟨.value x,xs,ats⟩) (hx:evW C G fr x=some (.fn F [] [])) (he:C.ext F=none) (hxs:avq C G fr xs.toList=some [match nn with|true=>.nils|false=>.sl b 0 0 n K none,.int .i64 (i:Int),.sl q 0 0 m K none])
  (h0:nn=true->n=0/\olds=[]) (h1:nn=false->hget T b=some (g,ob)/\ymq 50 ob 0 n K=some olds/\ob.size=n*K/\aaq ob=true/\b≠q/\b<D) (hq:hget T q=some (g,M)) (S:ymq 50 M 0 m K=some news) (L:aaq M=true) (hqn:q<D) (hi:i<=n) (hm:0<m) (A:news.length=m) (hol:olds.length=n) (hnp2:acq news=true) (hop:acq olds=true)
  (hb:(n+m)*BY<=140737488355328) (hb2:n+m<=70368744177664) (H:HpW) (Q:∀c y,hget H c=some y->(c=D/\y=(g,.arr ((n+m)*K) K (olds.take i++(news++olds.drop i))))\/(c≠D/\c≠q/\(nn=false->c≠b)/\hget T c=some y)) (V:(H.map (·.1)).Nodup)
  (h:J (.sl D 0 0 (n+m) K none) H (D+1) R (some .dirty)):aeq C G o fr T D R J:=by
 have hK0:0<K:=by simpa using hK
 have I:aaq (.arr ((n+m)*K) K (olds.take i++(news++olds.drop i)))=true:=by
  show acq (olds.take i++(news++olds.drop i))=true;have e:=hop;rw[<-ZK i olds,qsq,Zd] at e;rw[qsq,qsq,e.1,hnp2,e.2];rfl
 obtain⟨a,l,rfl⟩:∃a l,news=a::l:=by
  cases news with
  |nil=>simp only[ZP] at A;omega
  |cons a l=>exact⟨a,l,rfl⟩
 have hz:Nat.beq k.size 0=false:=by
  cases hq:Nat.beq k.size 0 with
  |true=>have:=Zi hq;omega
  |false=>rfl
 cases nn with
 |true=>
  obtain⟨rfl,rfl⟩:=h0 rfl;obtain rfl:i=0:=by omega
  have hb':=hb;have P:=hb2;rw[ZG] at hb' P
  have B:aNq C [(0,g,M)] ts K (.sl 0 0 0 m K none)=some (a::l):=by
   unfold aNq;rw[U];simp only[hd,Y0];exact S
  have ha:=uOq (nw:=1) U hd hkt hz (by rw[E];exact B) Xi (by rw[A,Z];exact hb') (by rw[A];exact P);rw[E,A] at ha;have sp:=bTq (G:=G) hk (i:=0) rfl B ha (.inl ⟨rfl,rfl⟩);refine yXq (zDq (ext:=[q]) (ws:=[.nils,.int .i64 (0:Int),.sl 0 0 0 m K none]) (hp0:=[(0,g,M)]) ho hx he hxs rfl sp Xi (by simpa using hqn) Xi (λc ty w z=>?_) Y ?_)
  .rw[zfq] at z;split at z
   .rename_i e;subst e;cases z;exact⟨by simp,zaq L,q,rfl,by rw[zdq L];exact hq⟩
   .simp[hget] at z
  .rintro w hp1 nw1 ⟨rfl,rfl,rfl⟩;refine⟨H,λc y z=>?_,V,?_⟩
   .rcases Q c y z with ⟨ec,rfl⟩|⟨h1,h2,_,h3⟩
    .rw[ec];show hget ((D+(1-1),g,adq _ _)::_) _=_;rw[zfq,Zl Xd];simp only[ZG,List.take_nil,List.drop_nil,YX,ZT] at I⊢;rw[zdq I]
    .show hget ((D+(1-1),_)::(q,_)::ayq T q) c=_;rw[zfq,Zg Xd,zfq,Zg (λe=>h2 e.symm),xrq (λe=>h2 e)];exact h3
   .show J (.sl (D+(1-1)) 0 0 m K none) H (D+(2-1)) R (some .dirty);rw[ZG] at h;exact h
 |false=>
  obtain⟨hg,hs0,hsz,O,hbq,hbn⟩:=h1 rfl
  have sp:zUq C G F 2 [.sl 0 0 0 n K none,.int .i64 (i:Int),.sl 1 0 0 m K none] [(0,g,ob),(1,g,M)]
   λw hp' nw'=>w= .sl 2 0 0 (n+m) K none/\hp'=[(2,g,.arr ((n+m)*K) K (olds.take i++(a::l++olds.drop i))),(1,g,M)]/\nw'=3:=by
   rcases ZL i n with hi|hi
   .exact Dgq hk U hd hK hs0 S hi hm hb hb2
   .obtain rfl:i=n:=by omega
    have B:aNq C [(0,g,ob),(1,g,M)] ts K (.sl 1 0 0 m K none)=some (a::l):=by
     unfold aNq;rw[U];simp only[hd,Y0];exact S
    have ha:=qxq (nw:=2) (b:=0) (base:=0) (off:=0) (len:=i) (v:=ob) (olds:=olds) (ty:=g) U hd hkt hz (by rw[E];exact B) Xi (by rw[A,Z];omega) (by rw[A];omega) rfl (by rw[hsz,A,E,ZG];exact Nat.mul_lt_mul_of_pos_right Xd hK0) (ZOq _) (by rw[E];exact hs0);rw[E,A] at ha;have sp:=bTq (G:=G) hk (i:=i) rfl B ha (.inr (.inl ⟨0,0,0,none,rfl⟩));have e1:olds.take i=olds:=Zp Xd;have e2:olds.drop i=[]:=ZY Xd;rw[e1,e2,ZT];exact sp
  refine yXq (zDq (ext:=[b,q]) (ws:=[.sl 0 0 0 n K none,.int .i64 (i:Int),.sl 1 0 0 m K none]) (hp0:=[(0,g,ob),(1,g,M)]) ho hx he hxs rfl sp (by simpa using hbq) (by intro c z;simp only[ZB,ZW,or_false] at z;omega) Xi (λc ty w z=>?_) Y ?_)
  .rw[zfq] at z;split at z
   .rename_i e;subst e;cases z;exact⟨by simp,zaq O,b,rfl,by rw[zdq O];exact hg⟩
   .rw[zfq] at z;split at z
    .rename_i e;subst e;cases z;exact⟨by simp,zaq L,q,rfl,by rw[zdq L];exact hq⟩
    .simp[hget] at z
  .rintro w hp1 nw1 ⟨rfl,rfl,rfl⟩;refine⟨H,λc y z=>?_,V,?_⟩
   .rcases Q c y z with ⟨ec,rfl⟩|⟨h1,h2,h4,h3⟩
    .rw[ec];show hget ((D+(2-2),g,adq _ _)::_) _=_;rw[zfq,Zl Xd,zdq I]
    .show hget ((D+(2-2),_)::(q,_)::ayq (ayq T b) q) c=_;rw[zfq,Zg Xd,zfq,Zg (λe=>h2 e.symm),xrq (λe=>h2 e),xrq (λe=>h4 rfl e)];exact h3
   .exact h
end
section
attribute [local irreducible] CoW OpW FlW aeq ajq
variable {G:Nat->Option W}
theorem ezq(x:Tx):PS cfg G 259 [txW x] (.int .u64 (x.nonce:Int)):=by
 exact gI 14 Y (λR a=>gQa 0 Y)
def C3q(l:List Tx)(f:Bool):W:=.agg 2 [.fz (l.map txW) 99 f,.fn 259 [] []]
theorem YWq(l:Ln):PS cfg G 232 [lnW l] (C3q l.txs false):=by
 have a:=jnq l.txs;exact gI 15 Y (λR b=>gQa 0 Y)
def Emq(l:List Tx):Prop:=∀(i j:Nat) x y,i<j->l[i]? =some x->l[j]? =some y->x.nonce<y.nonce
def ahN(l:List Tx)(n:Nat):Nat:=(l.takeWhile λx=>decide (x.nonce<n)).length
theorem rlq:∀{l:List Tx} {n k:Nat},k<=l.length->(∀(j:Nat) x,j<k->l[j]? =some x->x.nonce<n) ->(∀(j:Nat) x,k<=j->l[j]? =some x->¬x.nonce<n) ->ahN l n=k
 |[],n,k,h,_,_=>by
  simp only[ZP] at h;obtain rfl:k=0:=by omega
  rfl
 |x::l,n,0,_,_,h2=>by
  have:=h2 0 x (Zb _) rfl;simp[ahN,this]
 |x::l,n,k+1,h,h1,h2=>by
  have q:=h1 0 x Xd rfl;have:=rlq (l:=l) (n:=n) (k:=k) (by simpa using h) (λj y b a=>h1 (j+1) y Xd (by simpa using a)) (λj y b a=>h2 (j+1) y Xd (by simpa using a));unfold ahN at this⊢;rw[List.takeWhile_cons_of_pos (by simpa using q),Zo,this]
theorem Xqq(l:List Tx)(f:Bool)(n:Nat)(z:Emq l)(K:l.length<=1000000000):PS cfg G 233 [C3q l f,.int .u64 (n:Int)] (.int .i64 (ahN l n:Int)):=by
 have e:(l.map txW).length=l.length:=Ze _;have C:=jnq l;refine gI 10 Y (λR L=>gZ 0 Y e ?_);refine gLo (α:=Nat×Nat) 6 (λp=>p.1<=p.2/\p.2<=l.length/\(∀(j:Nat) x,j<p.1->l[j]? =some x->x.nonce<n)/\(∀(j:Nat) x,p.2<=j->l[j]? =some x->¬x.nonce<n)) (λp=>[(5,.int .i64 (p.1:Int)),(6,.int .i64 (p.2:Int))]) [1,2,4] (λp=>p.2-p.1) ((0,l.length)) rfl (⟨Zf _,Zb _,λj x h=>by omega,λj x h d=>by have:=yGq d;omega⟩) (λp B=>?_);obtain⟨I,E,w,s⟩:=B;refine gS 8 Y (λF=>?_) (λF=>?_)
 .obtain⟨x,d⟩:∃x,l[(p.1+p.2)/2]? =some x:=⟨_,Za Xd⟩
  skip
  by_cases h:x.nonce<n
  .exact gA 7 Y (p.1+p.2) (gA 0 Y ((p.1+p.2)/2) (gP 10 Y (zyq (i:=(p.1+p.2)/2) Y Y Y Y Y Y Y (ziq txW d)) (gC 1 Y (ezq x) (gT 1 Y (ltI_iff.2 Xd) (gA 5 Y ((p.1+p.2)/2+1) (gAg 3 Y (((p.1+p.2)/2+1,p.2)) (⟨by omega,E,λj y A m=>by rcases ZL j ((p.1+p.2)/2) with q|q;exact Nat.lt_trans (z j _ y x q m d) h;have r:j=(p.1+p.2)/2:=Xd;subst r;have:=ZA (d.symm.trans m);subst this;exact h,s⟩) Xd))))))
  .exact gA 7 Y (p.1+p.2) (gA 0 Y ((p.1+p.2)/2) (gP 10 Y (zyq (i:=(p.1+p.2)/2) Y Y Y Y Y Y Y (ziq txW d)) (gC 1 Y (ezq x) (gF 1 Y (ltI_not.2 Xd) (gAg 8 Y ((p.1,(p.1+p.2)/2)) (⟨by omega,by omega,w,λj y A m=>by rcases ZL ((p.1+p.2)/2) j with q|q;exact λH=>h (Nat.lt_trans (z _ j x y q d m) H);have r:j=(p.1+p.2)/2:=Xd;subst r;have:=ZA (d.symm.trans m);subst this;exact h⟩) Xd)))))
 .have J:p.1=p.2:=by omega
  have D:=rlq (l:=l) (n:=n) (k:=p.1) Xd w (λj x A d=>s j x Xd d);exact gO 2 Y (gQ 9 Y (by rw[D]))
end
section
theorem kqq{A X B:HpW}{n:Nat}(g:∀p∈A,p.1<n)(i:∀p∈X,n<=p.1)(f:∀p∈B,n<=p.1/\∀q∈X,q.1≠p.1):∀k y,hget (A++B) k=some y->hget ((X++B)++A) k=some y:=λk y h=>by
 rw[qoq] at h;rw[qoq,qoq];by_cases q:k<n
 .have c:hget X k=none:=yPq λp b e=>by have:=i p b;omega
  have d:hget B k=none:=yPq λp b e=>by have:=(f p b).1;omega
  rw[d] at h;rw[c,d];cases e:hget A k with
  |none=>rw[e] at h;exact h
  |some z=>rw[e] at h;exact h
 .have c:hget A k=none:=yPq λp b e=>by have:=g p b;omega
  rw[c] at h⊢;cases e:hget X k with
  |none=>
   have h:hget B k=some y:=h;rw[h];rfl
  |some z=>
   exfalso
   have h:hget B k=some y:=h;have j:∃p∈B,p.1=k:=YY λq=>by rw[yPq λp b e=>q ⟨p,b,e⟩] at h;cases h
   obtain⟨p,b,rfl⟩:=j;rw[yPq λq l e=>(f p b).2 q l e] at e;cases e
attribute [local irreducible] CoW OpW FlW aeq ajq
variable {G:Nat->Option W}
def lnO(k:Dig)(b:Nat)(o:Option (List W)):W:=.agg 33 [dW k,oW b 99 o]
theorem QBq(a:Nat->Nat)(k:Dig)(b:Nat)(o:Option (List W)):adq a (lnO k b o)=lnO k (a b) o:=by
 show W.agg 33 [adq a (dW k),adq a (oW b 99 o)]=_;rw[zdq (qeq k),fFq];rfl
theorem KTq(l:Ln)(c:l.txs.length<=1000000000):zUq cfg G 189 0 [lnW l] [] λw g f=>(∃o:Option (List W),o.getD []=l.txs.map txW/\w=lnO l.who 2 o/\g=[(1,240,lnO l.who 2 o),(0,240,lnW l)]++oH 2 92 99 o)/\f=3:=by
 have h:=jnq l.txs;intro R;refine gIs 12 Y (λi=>?_)
 (refine yeq rfl (yXq (uiq Y Y Y Y Y Yd (BCq l.txs false c) ?_));rintro w e b ⟨⟨o,ho,rfl,rfl⟩,rfl⟩;have a:acq (o.getD [])=true:=(by rw[ho];exact jnq _);rw[fFq,uoq _ _ _ _ a,show afq [] 2 0=2 from rfl];refine⟨_,iKq (ycq (l:=[1,0]) rfl Xg),q0q (ycq (l:=[1,0]) rfl Xg) (show [1,0].Nodup by decide),rfl,?_⟩)
 refine jLq rfl ((show _=some (lnO l.who 2 o) from by cases o<;>rfl)) ?_;exact zWq 4 Y (fin Jr Ent.refl rfl ⟨rfl,⟨o,ho,rfl,rfl⟩,rfl⟩)
@[simp] theorem Chq(l:List Tx)(f:Bool):aaq (C3q l f)=true:=by
 show(acq (l.map txW)&&(aaq (.fn _ [] [])&&true))=true;rw[jnq];rfl
theorem LnM.srt{l:Ln}(h:LnM l):Emq l.txs:=by
 intro i j x y d k f;induction j generalizing y with
 |zero=>omega
 |succ j m=>
  obtain⟨z,b⟩:∃z,l.txs[j]? =some z:=⟨_,Za (by have:=yGq f;omega)⟩
  have g:z.nonce<y.nonce:=(h.2 (j+1) y f).2 z Xd (by simpa using b);rcases ZC.1 d with q|rfl
  .exact Nat.lt_trans (m z q b) g
  .have:=ZA (k.symm.trans b);subst this;exact g
theorem rkq(l:List Tx)(n:Nat):ahN l n<=l.length:=by
 unfold ahN;exact(List.takeWhile_sublist _).length_le
def ln0:W:=.agg 33 [.arr 32 1 (List.replicate 32 (.int .u8 (.ofNat 0))),.nils]
def mcq(l:Ln)(x:Tx):Ln:=⟨l.who,l.txs.take (ahN l.txs x.nonce)++x::l.txs.drop (ahN l.txs x.nonce)⟩
def Ceq(l:Ln)(x:Tx):Ln:=⟨l.who,l.txs.set (ahN l.txs x.nonce) x⟩
theorem AGq{k:Dig}{b:Nat}{o:Option (List W)}:zGq 50 (lnO k b o) 32 1 false=some (oW b 99 o):=by cases o<;>rfl
theorem AFq{k:Dig}{b c:Nat}{o:Option (List W)}{L:List W}:z7q 50 (lnO k b o) 32 (oW c 99 (some L))=some (lnO k c (some L)):=by cases o<;>rfl
theorem Qfq{C:Cfg}{G:Nat->Option W}{R:Res}{o:Oper}{fr:FrW}{I:HpW}{w:Nat}{A:W->HpW->Nat->Res->Option EvW->Prop}{x:Operand}{xs:Array Operand}{ats:Array TypeId}{F:FuncId}{ts B:TypeId}{K BY:Nat}(hk:C.known F=some (aGq C ts B K BY)){j k:TyI}(hj:C.ty ts=some j)(hd:j.d= .slice B)(M:C.ty B=some k)(J:k.size=K)(S:k.bytes=BY)(hK:Nat.blt 0 K=true)
  {u:Option (List W)} {y nb:W} {i b q:Nat} (ho:o.op= .call ⟨.value x,xs,ats⟩) (hx:evW C G fr x=some (.fn F [] [])) (he:C.ext F=none) (U:avq C G fr xs.toList=some [oW b K u,.int .i64 (i:Int),.sl q 0 0 1 K none])
  (hu:oIn I b B K u) (hup:acq (u.getD [])=true) (hq:hget I q=some (B,nb)) (V:ymq 50 nb 0 1 K=some [y]) (O:aaq nb=true) (hy:aaq y=true) (hbq:b≠q) (hbn:b<w) (T:q<w) (hi:i<=(u.getD []).length) (hb:((u.getD []).length+1)*BY<=140737488355328) (Z:(u.getD []).length+1<=70368744177664)
  (P:HpW) (hP:∀c z,hget P c=some z->c≠q/\c≠b/\hget I c=some z) (hPn:∀p∈P,p.1≠w) (hnd:(P.map (·.1)).Nodup)
  (h:∀L,L=(u.getD []).take i++y::(u.getD []).drop i->A (oW w K (some L)) ((w,B,.arr (L.length*K) K L)::P) (w+1) R (some .dirty)):aeq C G o fr I w R A:=by
 have hK0:0<K:=by simpa using hK
 have el:((u.getD []).take i++y::(u.getD []).drop i).length=(u.getD []).length+1:=by
  simp only[Zh,Zu,Zo,Zy];omega
 have h:=h _ rfl;rw[el] at h;have h:A (.sl w 0 0 ((u.getD []).take i++y::(u.getD []).drop i).length K none) ((w,B,.arr (((u.getD []).length+1)*K) K ((u.getD []).take i++(y::(u.getD []).drop i)))::P) (w+1) R (some .dirty):=h;rw[el] at h
 have H:∀c z,hget ((w,B,W.arr (((u.getD []).length+1)*K) K ((u.getD []).take i++(y::(u.getD []).drop i)))::P) c=some z->(c=w/\z=(B,.arr (((u.getD []).length+1)*K) K ((u.getD []).take i++(y::(u.getD []).drop i))))\/(c≠w/\c≠q/\c≠b/\hget I c=some z):=λc z D=>by
  rw[zfq] at D;split at D
  .rename_i e;cases D;exact .inl ⟨e.symm,rfl⟩
  .rename_i e;obtain⟨Q,X,p3⟩:=hP c z D;exact .inr ⟨λq=>e q.symm,Q,X,p3⟩
 have E:(((w,B,W.arr (((u.getD []).length+1)*K) K ((u.getD []).take i++(y::(u.getD []).drop i)))::P:HpW).map (·.1)).Nodup:=by
  rw[ZD,Y1];refine⟨λhm=>?_,hnd⟩;obtain⟨p,I,e⟩:=Z2.1 hm;exact hPn p I e
 cases u with
 |none=>
  exact d3q (olds:=[]) (news:=[y]) (ob:=.undef) (n:=0) (b:=0) (i:=i) hk hj hd M J S hK true ho hx he U (λ_=>⟨rfl,rfl⟩) (λh=>by cases h) hq V O T hi Xg Y Y (by simp[acq,hy]) rfl hb Z _ (λc z D=>(H c z D).imp id λ⟨Q,X,p3,p4⟩=>⟨Q,X,λh=>Qi,p4⟩) E h
 |some L=>
  have hL:acq L=true:=hup;exact d3q (olds:=L) (news:=[y]) (ob:=.arr (L.length*K) K L) (n:=L.length) (b:=b) (i:=i) hk hj hd M J S hK false ho hx he U (λh=>by cases h) (λ_=>⟨hu L rfl,zqq hK0 Y Y,rfl,hL,hbq,hbn⟩) hq V O T hi Xg Y Y (by simp[acq,hy]) hL hb Z _ (λc z D=>(H c z D).imp id λ⟨Q,X,p3,p4⟩=>⟨Q,X,λ_=>p3,p4⟩) E h
theorem pNq:cfg.known 234=some (aGq cfg 46 92 99 120):=by kernel_rfl
theorem KBq(l:Ln)(o:Option (List W))(a:acq (o.getD [])=true):ahq (afq [] 3) ([(1,240,lnO l.who 2 o),(0,240,lnW l)]++oH 2 92 99 o)=[(4,240,lnO l.who 5 o),(3,240,lnW l)]++oH 5 92 99 o:=by
 rw[upq,uoq _ _ _ _ a,ahq,ahq,QBq,zdq (jyq l)];rfl
theorem ekq(l:Ln)(x:Tx)(o:Option (List W)):∀c z,hget [(2,240,lnO l.who 5 o),(1,92,txW x),(0,240,lnW l)] c=some z->c≠6/\c≠5/\hget ((6,92,txW x)::([(2,240,lnO l.who 5 o),(1,92,txW x),(0,240,lnW l)]++oH 5 92 99 o)) c=some z:=λc z h=>by
 have b:c=2\/c=1\/c=0:=YY λq=>by
  rw[yPq λp a e=>q (by rcases ZB.1 a with rfl|a;exact .inl e.symm;rcases ZB.1 a with rfl|a;exact .inr (.inl e.symm);simp only[ZB,ZW,or_false] at a;subst a;exact .inr (.inr e.symm))] at h;cases h
 refine⟨by omega,by omega,?_⟩;rw[zfq,Zg Xd];exact JPq h
theorem diq{l:List W}{i:Nat}{y:W}(h:acq l=true)(a:aaq y=true):acq (l.take i++y::l.drop i)=true:=by
 rw[<-ZK i l,qsq,Zd] at h;rw[qsq,h.1];show(true&&(aaq y&&acq (l.drop i)))=true;rw[a,h.2];rfl
section
variable (l:Ln) (x:Tx) (hx:∀y∈l.txs,y.ok) (ok:x.ok) (hm:LnM l) (ho:gdq x l.who)
include hx ok hm ho
theorem siq{y:Tx}(a:l.txs[ahN l.txs x.nonce]? =some y)(A:y.nonce=x.nonce)(v:x.fee<=y.fee):PS cfg glK 200 [lnW l,txW x] (.tup [ln0,.nils,.int .i64 190]):=by
 have f:=hm.1;have e:(l.txs.map txW).length=l.txs.length:=Ze _;have k:=yGq a;refine gIv 14 Y (λR z=>gC 0 Y (zrq (w':=.int .i64 0) (k2q l hx Xd) Yc) (gF 0 Y zN (gC 9 Y (zrq (w':=.bool true) (bDq x ok l.who) Yt) (gC 11 Y (YWq l) (gC 2 Y (Xqq l.txs false x.nonce hm.srt Xd) (zbq 6 Y ?_))))))
 (refine zhq rfl (yXq (yMq Y Y Y Y Y Yd (KTq l Xd) ?_));rintro w m j ⟨⟨o,hoo,rfl,rfl⟩,rfl⟩;have c:acq (o.getD [])=true:=(by rw[hoo];exact jnq _);rw[QBq,KBq l o c,show afq [] 3 2=5 from rfl];refine⟨_,kqq (n:=3) (xXq (l:=[2,1,0]) rfl Xg) Xi (λp q=>by rw[qNq p q];simp),q0q (ycq (l:=[2,1,0]) rfl Xg) (show [2,1,0].Nodup by decide),?_⟩)
 exact zeq 9 Y (gZ 0 Y e (gT 0 Y (ltI_iff.2 Xd) (gP 4 Y (zyq (i:=ahN l.txs x.nonce) Y Y Y Y Y Y Y (ziq txW a)) (gT 4 Y (eqI_iff.2 Xd) (gP 12 Y (zyq (i:=ahN l.txs x.nonce) Y Y Y Y Y Y Y (ziq txW a)) (gT 2 Y (Zc not (ltI_not.2 Xd)) (zbq 14 Y (y0q Jr rfl (.pur rfl)))))))))
theorem shq{y:Tx}(j:l.txs[ahN l.txs x.nonce]? =some y)(I:y.nonce=x.nonce)(F:¬x.fee<=y.fee):PS cfg glK 200 [lnW l,txW x] (.tup [lnW (Ceq l x),.fz [txW y] 99 false,.int .i64 0]):=by
 have B:=hm.1;have e:(l.txs.map txW).length=l.txs.length:=Ze _;have k:=yGq j;have A:(Ceq l x).txs.map txW=(l.txs.map txW).set (ahN l.txs x.nonce) (txW x):=List.map_set;have q:acq ((l.txs.map txW).set (ahN l.txs x.nonce) (txW x))=true:=A▸jnq _
 refine gIv 14 Y (λR H=>gC 0 Y (zrq (w':=.int .i64 0) (k2q l hx Xd) Yc) (gF 0 Y zN (gC 9 Y (zrq (w':=.bool true) (bDq x ok l.who) Yt) (gC 11 Y (YWq l) (gC 2 Y (Xqq l.txs false x.nonce hm.srt Xd) (zbq 6 Y ?_))))))
 (refine zhq rfl (yXq (yMq Y Y Y Y Y Yd (KTq l Xd) ?_));rintro w D C ⟨⟨o,hoo,rfl,rfl⟩,rfl⟩;have v:acq (o.getD [])=true:=(by rw[hoo];exact jnq _);rw[QBq,KBq l o v,show afq [] 3 2=5 from rfl];refine⟨_,kqq (n:=3) (xXq (l:=[2,1,0]) rfl Xg) Xi (λp E=>by rw[qNq p E];simp),q0q (ycq (l:=[2,1,0]) rfl Xg) (show [2,1,0].Nodup by decide),?_⟩;obtain rfl:o=some (l.txs.map txW):=(by cases o with|none=>exact absurd (hoo.symm▸e:([]:List W).length=_) Qa|some L=>exact Zc some hoo))
 refine zeq 9 Y (gZ 0 Y e (gT 0 Y (ltI_iff.2 Xd) (gP 4 Y (zyq (i:=ahN l.txs x.nonce) Y Y Y Y Y Y Y (ziq txW j)) (gT 4 Y (eqI_iff.2 Xd) (gP 12 Y (zyq (i:=ahN l.txs x.nonce) Y Y Y Y Y Y Y (ziq txW j)) (gF 2 Y (Zc not (ltI_iff.2 Xd)) (gP 11 Y (ypq (i:=ahN l.txs x.nonce) Y Y Y Y Y Y Y (by rw[e];exact k)) ?_)))))))
 (refine zhq rfl (xlq (n:=(l.txs.map txW).length) (e:=99) Y Y Y Y Y Y Y (ziq txW j) Y Y Y Y Xg ?_))
 refine zeq 8 Y (gP 0 Y (zyq (i:=ahN l.txs x.nonce) Y Y Y Y Y Y Y (ziq txW j)) (zbq 1 Y (viq Y Y Xp (viq rfl (qmq Y Y Y Y Y Y Y) Xp (zWq 6 Y ?_)))));refine y0q Jr rfl (.tup (.cons (.agg (.cons (.pur (qeq _)) (.cons ?_ .nil))) (.cons ?_ (.cons (.pur rfl) .nil))))
 .rw[A];exact .sl (full:=false) (c:=.arr ((l.txs.map txW).length*99) 99 ((l.txs.map txW).set (ahN l.txs x.nonce) (txW x))) rfl q (zqq Xg (by rw[YI]) rfl) Xj
 .exact .sl (full:=false) (c:=txW y) rfl (qYq y) rfl Xj
theorem hMq(C:l.txs.length<256)(H:∀y,l.txs[ahN l.txs x.nonce]? =some y->y.nonce≠x.nonce):PS cfg glK 200 [lnW l,txW x] (.tup [lnW (mcq l x),.nils,.int .i64 0]):=by
 have e:(l.txs.map txW).length=l.txs.length:=Ze _;by_cases z:ahN l.txs x.nonce<l.txs.length
 .obtain⟨y,D⟩:∃y,l.txs[ahN l.txs x.nonce]? =some y:=⟨_,Za z⟩
  have F:=H y D;refine gIv 14 Y (λR E=>gC 0 Y (zrq (w':=.int .i64 0) (k2q l hx Xd) Yc) (gF 0 Y zN (gC 9 Y (zrq (w':=.bool true) (bDq x ok l.who) Yt) (gC 11 Y (YWq l) (gC 2 Y (Xqq l.txs false x.nonce hm.srt Xd) (zbq 6 Y ?_))))))
  (refine zhq rfl (yXq (yMq Y Y Y Y Y Yd (KTq l Xd) ?_));rintro w A v ⟨⟨o,hoo,rfl,rfl⟩,rfl⟩;have f:acq (o.getD [])=true:=(by rw[hoo];exact jnq _);rw[QBq,KBq l o f,show afq [] 3 2=5 from rfl];refine⟨_,kqq (n:=3) (xXq (l:=[2,1,0]) rfl Xg) Xi (λp B=>by rw[qNq p B];simp),q0q (ycq (l:=[2,1,0]) rfl Xg) (show [2,1,0].Nodup by decide),?_⟩)
  refine zeq 9 Y (gZ 0 Y e (gT 0 Y (ltI_iff.2 Xd) (gP 4 Y (zyq (i:=ahN l.txs x.nonce) Y Y Y Y Y Y Y (ziq txW D)) (gF 4 Y (eqI_not.2 Xd) (gZ 11 Y e (gF 0 Y (eqI_not.2 Xd) (gM 8 Y (zwq Y Y Y AGq) (zbq 3 Y ?_))))))))
  (refine zhq rfl (Qfq (j:=B9q) (k:=wKq) (y:=txW x) (nb:=txW x) (b:=5) pNq Y Y Y Y Y Y Y Y Y Y (zSq Xg (zSq Xg (qhq (ycq (l:=[1,0]) rfl Xg)))) f Y Y (qYq x) (qYq x) Xg Xg Xg (by rw[hoo,e];exact rkq _ _) (by rw[hoo,e];show _*120<=_;omega) (by rw[hoo,e];omega) [(2,240,lnO l.who 5 o),(1,92,txW x),(0,240,lnW l)] (ekq l x o) Xi Xi ?_);intro L q)
  refine z5q Y Y (kjq rfl (qmq Y Y Y Y Y AFq rfl) ?_);refine zeq 11 Y ?_;refine y0q Jr rfl (.tup (.cons (.agg (.cons (.pur (qeq _)) (.cons ?_ .nil))) (vR (.cons (.pur rfl) .nil))));rw[show(mcq l x).txs.map txW=L from by rw[q,hoo,mcq,Z4,List.map_take,ZD,List.map_drop]];exact .sl (full:=false) (c:=.arr (L.length*99) 99 L) rfl (show acq L=true by rw[q];exact diq f (qYq x)) (zqq Xg Y Y) Xj
 .skip
  refine gIv 14 Y (λR E=>gC 0 Y (zrq (w':=.int .i64 0) (k2q l hx Xd) Yc) (gF 0 Y zN (gC 9 Y (zrq (w':=.bool true) (bDq x ok l.who) Yt) (gC 11 Y (YWq l) (gC 2 Y (Xqq l.txs false x.nonce hm.srt Xd) (zbq 6 Y ?_))))))
  (refine zhq rfl (yXq (yMq Y Y Y Y Y Yd (KTq l Xd) ?_));rintro w A v ⟨⟨o,hoo,rfl,rfl⟩,rfl⟩;have f:acq (o.getD [])=true:=(by rw[hoo];exact jnq _);rw[QBq,KBq l o f,show afq [] 3 2=5 from rfl];refine⟨_,kqq (n:=3) (xXq (l:=[2,1,0]) rfl Xg) Xi (λp B=>by rw[qNq p B];simp),q0q (ycq (l:=[2,1,0]) rfl Xg) (show [2,1,0].Nodup by decide),?_⟩)
  refine zeq 9 Y (gZ 0 Y e (gF 0 Y (ltI_not.2 Xd) (gZ 21 Y e (gF 0 Y (eqI_not.2 Xd) (gM 8 Y (zwq Y Y Y AGq) (zbq 3 Y ?_))))))
  (refine zhq rfl (Qfq (j:=B9q) (k:=wKq) (y:=txW x) (nb:=txW x) (b:=5) pNq Y Y Y Y Y Y Y Y Y Y (zSq Xg (zSq Xg (qhq (ycq (l:=[1,0]) rfl Xg)))) f Y Y (qYq x) (qYq x) Xg Xg Xg (by rw[hoo,e];exact rkq _ _) (by rw[hoo,e];show _*120<=_;omega) (by rw[hoo,e];omega) [(2,240,lnO l.who 5 o),(1,92,txW x),(0,240,lnW l)] (ekq l x o) Xi Xi ?_);intro L q)
  refine z5q Y Y (kjq rfl (qmq Y Y Y Y Y AFq rfl) ?_);refine zeq 11 Y ?_;refine y0q Jr rfl (.tup (.cons (.agg (.cons (.pur (qeq _)) (.cons ?_ .nil))) (vR (.cons (.pur rfl) .nil))));rw[show(mcq l x).txs.map txW=L from by rw[q,hoo,mcq,Z4,List.map_take,ZD,List.map_drop]];exact .sl (full:=false) (c:=.arr (L.length*99) 99 L) rfl (show acq L=true by rw[q];exact diq f (qYq x)) (zqq Xg Y Y) Xj
end
end
section
attribute [local irreducible] CoW OpW FlW aeq ajq
variable {G:Nat->Option W}
theorem mvq{b:Type}{q:b->Bool}:∀{l:List b} {k:Nat},k<=l.length->(∀(j:Nat) x,j<k->l[j]? =some x->q x=true) ->(∀x,l[k]? =some x->q x=false) ->(l.takeWhile q).length=k
 |[],k,h,_,_=>by
  simp only[ZP] at h;obtain rfl:k=0:=by omega
  rfl
 |x::l,0,_,_,h2=>by
  have:=h2 x rfl;simp[this]
 |x::l,k+1,h,h1,h2=>by
  rw[List.takeWhile_cons_of_pos (h1 0 x Xd rfl),Zo,mvq (k:=k) (by simpa using h) (λj y c a=>h1 (j+1) y Xd (by simpa using a)) (λy a=>h2 y (by simpa using a))]
def fndK(s:Shd)(k:Dig):Nat:=(s.takeWhile λl=>yrq l.who k).length
theorem iVq(s:Shd)(k:Dig):fndK s k<=s.length:=by
 unfold fndK;exact(List.takeWhile_sublist _).length_le
def aYq(s:Shd)(k:Dig):Prop:=∃l,s[fndK s k]? =some l/\l.who=k
instance(s:Shd)(k:Dig):Decidable (aYq s k):=Classical.propDecidable _
theorem i1q(l:Ln)(k:Dig):PS cfg G 262 [lnW l,.fel (dW k)] (.bool (!yrq l.who k)):=by
 exact gI 11 Y (λR a=>gC 0 Y (Xpq l.who k) (gQa 5 Y))
theorem iFq(s:Shd)(f:Bool)(k:Dig)(D:s.length<=1000000000):PS cfg G 183 [.fz (s.map lnW) 33 f,.fn 262 [] [.fel (dW k)]] (.int .i64 (if fndK s k<s.length then(fndK s k:Int) else-1)):=by
 have e:(s.map lnW).length=s.length:=Ze _;refine gI 9 Y (λR C=>gZ 0 Y e ?_);refine gLo (α:=Nat) 4 (λi=>i<=s.length/\∀(j:Nat) x,j<i->s[j]? =some x->yrq x.who k=true) (λi=>[(8,.int .i64 (i:Int))]) [0,1,4,7] (λi=>s.length-i) (0) rfl (⟨Zf _,λj x h=>by omega⟩) (λi w=>?_);obtain⟨A,r⟩:=w;refine gS 6 Y (λB=>?_) (λB=>?_)
 .obtain⟨x,d⟩:∃x,s[i]? =some x:=⟨_,Za Xd⟩
  skip
  cases m:yrq x.who k with
  |false=>
   have p:fndK s k=i:=mvq A r (λy c=>by obtain rfl:=ZA (d.symm.trans c);exact m);exact zHq 15 Y (gP 0 Y (zyq (i:=i) Y Y Y Y Y Y Y (ziq lnW d)) (gC 1 Y (zrq (w':=.bool true) (i1q x k) (by rw[m];rfl)) (gO 12 Y (gQ 2 Y (by rw[p,Zl Xd])))))
  |true=>
   exact zHq 15 Y (gP 0 Y (zyq (i:=i) Y Y Y Y Y Y Y (ziq lnW d)) (gC 1 Y (zrq (w':=.bool false) (i1q x k) (by rw[m];rfl)) (gA 7 Y (i+1) (gAg 2 Y (i+1) (⟨by omega,λj y u c=>by rcases ZC.1 u with q|rfl;exact r j y q c;exact ZA (d.symm.trans c)▸m⟩) Xd))))
 .have p:fndK s k=s.length:=mvq (Zb _) (λj x u d=>r j x Xd d) (λy c=>by have:=yGq c;omega);exact gO 2 Y (gQ 8 Y (by rw[p,Zg Xd]))
theorem QPq(s:Shd)(k:Dig)(C:s.length<=1000000000):PS cfg G 235 [.fel (shdW s),dW k] (.tup [.int .i64 (fndK s k:Int),.bool (decide (aYq s k))]):=by
 have e:(s.map lnW).length=s.length:=Ze _;have x:=qEq s;have B:∀{D:HpW},amq D 0=some (dW k) ->ViewL (amq D) [.fz (s.map lnW) 33 false,.fn 262 [] [.ptr 0 0]] [.fz (s.map lnW) 33 false,.fn 262 [] [.fel (dW k)]]:=λq=>.cons (.pur x) (.cons (.fn .nil (.cons (y5q q (qeq k) rfl) .nil)) .nil)
 have d:acq [.fz (s.map lnW) 33 false,.fn 262 [] [.fel (dW k)]]=true:=by simp[acq,aaq]
 by_cases j:fndK s k<s.length
 .obtain⟨l,m⟩:∃l,s[fndK s k]? =some l:=⟨_,Za j⟩
  by_cases w:l.who=k
  .skip
   exact gI 15 Y (λR E=>vcq Y Y Y Y Y (B rfl) (zrq (w':=.int .i64 (fndK s k:Int)) (iFq s false k C) (by rw[Zl j])) d Y (zeq 7 Y (gF 0 Y (ltI_not.2 Xd) (gP 14 Y (zyq (i:=fndK s k) Y Y Y Y Y Y Y (ziq lnW m)) (zbq 3 Y (k6q (w':=.bool true) rfl (yEq Y Y Y Y (yUq Y Y Y Y Y Y l.who k 250)) (by rw[Zq w]) (zWq 5 Y (gQ 0 Y (by rw[Zq (show aYq s k from⟨l,m,w⟩)])))))))))
  .skip
   exact gI 15 Y (λR E=>vcq Y Y Y Y Y (B rfl) (zrq (w':=.int .i64 (fndK s k:Int)) (iFq s false k C) (by rw[Zl j])) d Y (zeq 7 Y (gF 0 Y (ltI_not.2 Xd) (gP 14 Y (zyq (i:=fndK s k) Y Y Y Y Y Y Y (ziq lnW m)) (zbq 3 Y (k6q (w':=.bool false) rfl (yEq Y Y Y Y (yUq Y Y Y Y Y Y l.who k 250)) (by rw[Zw w]) (zWq 5 Y (gQ 0 Y (by rw[Zw (show¬aYq s k from λ⟨y,A,q⟩=>w (by obtain rfl:=ZA (m.symm.trans A);exact q))])))))))))
 .have F:fndK s k=s.length:=Nat.le_antisymm (iVq s k) Xd;exact gI 15 Y (λR E=>vcq Y Y Y Y Y (B rfl) (zrq (w':=.int .i64 (-1)) (iFq s false k C) (by rw[Zg j])) d Y (zeq 7 Y (gT 0 Y (ltI_iff.2 Xd) (gZ 10 Y e (gQ 6 Y (by rw[Zw (show¬aYq s k from λ⟨y,A,_⟩=>j (yGq A)),F]))))))
def kpq(s:Shd)(k:Dig):Ln:=match s[fndK s k]? with
 |some l=>if l.who=k then l else⟨k,[]⟩
 |none=>⟨k,[]⟩
theorem ALq(s:Shd)(k:Dig)(w:s.length<=1000000000):PS cfg G 201 [.fel (shdW s),dW k] (lnW (kpq s k)):=by
 have x:=qEq s;by_cases h:aYq s k
 .obtain⟨l,d,j⟩:=h;have q:kpq s k=l:=by unfold kpq;rw[d];exact Zl j
  refine gIv 10 Y (λR y=>gC 0 Y (zrq (w':=.tup [.int .i64 (fndK s k:Int),.bool true]) (QPq s k w) (by rw[Zq (show aYq s k from⟨l,d,j⟩)])) (gP 25 Y (zyq (i:=fndK s k) Y Y Y Y Y Y Y (ziq lnW d)) (zbq 5 Y ?_)));rw[q];exact y0q Jr rfl (.pur (jyq l))
 .have q:kpq s k=⟨k,[]⟩:=by
   unfold kpq;split
   .rename_i l d;exact Zg λj=>h ⟨l,d,j⟩
   .rfl
  refine gIv 10 Y (λR y=>gC 0 Y (zrq (w':=.tup [.int .i64 (fndK s k:Int),.bool false]) (QPq s k w) (by rw[Zw h])) (zbq 24 Y ?_));rw[q];exact y0q Jr rfl (.agg (.cons (.pur (qeq k)) (.cons .nilfz .nil)))
def ptO(b:Nat)(o:Option (List W)):W:=.agg 1 [oW b 33 o]
theorem xSq(a:Nat->Nat)(b:Nat)(o:Option (List W)):adq a (ptO b o)=ptO (a b) o:=by
 show W.agg 1 [adq a (oW b 33 o)]=_;rw[fFq];rfl
theorem usq{n b:Nat}{o:Option (List W)}(h:b<n):agq n (ptO b o)=true:=by
 show(agq n (oW b 33 o)&&true)=true;rw[m1q h];rfl
theorem CWq{b:Nat}{o:Option (List W)}:zGq 50 (ptO b o) 0 1 false=some (oW b 33 o):=by cases o<;>rfl
theorem CVq{b c:Nat}{o:Option (List W)}{L:List W}:z7q 50 (ptO b o) 0 (oW c 33 (some L))=some (ptO c (some L)):=by cases o<;>rfl
theorem xjq{d:HpW}{b c:Nat}{o:Option (List W)}{s:Shd}(j:amq d b=some (ptO c o))(h:o.getD []=s.map lnW)(k:oIn d c 240 33 o):View (amq d) (.ptr b 0) (.fel (shdW s)):=
 .ptr2 (n:=1) (ag:=true) (c':=shdW s) j (.agg (.cons (by have:=Qbq Xg (by rw[h];exact qEq s) k;rw[h] at this;exact this) .nil)) rfl
theorem rVq(s:Shd)(u:s.length<=1000000000)(z:∀l∈s,l.txs.length<=1000000000):zUq cfg G 122 0 [shdW s] [] λw C B=>(∃o:Option (List W),o.getD []=s.map lnW/\w=ptO 2 o/\C=[(1,236,ptO 2 o),(0,236,shdW s)]++oH 2 240 33 o)/\B=3:=by
 have f:=KUq s;have j:=qEq s;have e:(s.map lnW).length=s.length:=Ze _;intro R;refine gIs 10 Y (λD=>?_);skip
 refine gSo 0 Y (yMq Y Y Y Y Y Yd (irq s false u) ?_);rintro w y q (⟨rfl,rfl,rfl,rfl⟩|⟨rfl,rfl,rfl⟩)
 .skip
  skip
  refine gL 10 Y ?_;refine gLo (α:=Nat) 4 (λi=>i=0) (λi=>[(12,.int .i64 (i:Int))]) [2,3,11] (λi=>0) (0) rfl (rfl) (λi m=>?_);subst m;exact gO 9 Y (zbq 9 Y (fin Jr (zvq (nw2:=3) (fr2:=[(2,.ptr 1 0)]) (hp2:=[(1,236,ptO 2 none),(0,236,shdW [])]) Xg (Zb _) ⟨rfl,trivial⟩ rfl (zoq ⟨⟨by decide,rfl,rfl⟩,⟨by decide,rfl,rfl⟩,trivial⟩) Xi) rfl ⟨rfl,⟨none,rfl,rfl,rfl⟩,rfl⟩))
 .rw[zZq f];refine gL 10 Y ?_;refine gLo (α:=Nat) 4 (λi=>i<=s.length) (λi=>[(12,.int .i64 (i:Int))]) [2,3,11] (λi=>s.length-i) (0) rfl (Zf _) (λi m=>?_);refine gS 6 Y (λA=>?_) (λA=>?_)
  .have d:i<s.length:=by omega
   obtain⟨x,b⟩:∃x,s[i]? =some x:=⟨_,Za d⟩
   refine gP 17 Y (ypq (i:=i) Y Y Y Y Y Y Y d) ?_
   (refine yeq rfl (ujq (n:=s.length) (e:=33) Y Y Y Y Y Y e (ziq lnW b) Y Y Xg ?_);refine⟨by kernel_rfl,?_⟩)
   refine oiq (iqq x (z x (Zj b))) (jLq rfl (ypq (i:=i) Y Y Y Y Y Y Y d) ?_)
   (refine yeq rfl (xlq (n:=s.length) (e:=33) Y Y Y Y Y Y e (ziq lnW b) Y Y Y Y Xg ?_);rw[jrq (ziq lnW b)];refine⟨by kernel_rfl,?_⟩)
   exact zWq 4 Y (gA 0 Y (i+1) (gAg 2 Y (i+1) (d) Xd))
  .exact gO 2 Y (zbq 9 Y (fin Jr (zvq (nw2:=3) (fr2:=[(2,.ptr 1 0)]) (hp2:=[(1,236,ptO 2 (some (s.map lnW))),(0,236,shdW s),(2,240,.arr ((s.map lnW).length*33) 33 (s.map lnW))]) Xg Xg ⟨rfl,trivial⟩ rfl (zoq ⟨⟨by decide,by show some (_,W.agg 1 [W.sl 2 0 0 s.length 33 none])=some (_,W.agg 1 [W.sl 2 0 0 (s.map lnW).length 33 none]);rw[e],rfl⟩,⟨by decide,rfl,zaq (uYq s)⟩,⟨by decide,by rw[e];rfl,zaq (show aaq (.arr _ 33 (s.map lnW))=true from j)⟩,trivial⟩) Xi) rfl ⟨rfl,⟨some (s.map lnW),rfl,rfl,rfl⟩,rfl⟩))
end
end
end
end Go.Proofs.YtcoldbcijgmidaaGreatDoor
