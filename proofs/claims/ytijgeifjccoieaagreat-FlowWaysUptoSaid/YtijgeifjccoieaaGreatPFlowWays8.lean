/- FlowWays, part 8; made small by a program. -/
import Derived.Test.YtijgeifjccoieaaGreatPFlowWays7
namespace Go.Proofs
open Go.Gk Go.RowKit Go.Gm Go.Gr Go.Dm
theorem zp3{x:Mo}{pl:List PI}{fl:List FnL}{n:Nat}{p:Int×Int}(h:flwE x pl fl n=some p):p.1≠0:=by
 unfold flwE at h
 by_cases hg:(gnwE x pl (fx fl n)).1≠0
 ·rw[if_pos hg]at h
  cases h
  exact hg
 ·rw[if_neg hg]at h
  unfold bodE at h
  obtain⟨k,_,h⟩:=List.exists_of_findSome?_eq_some h
  exact zlW h
theorem zp2{x:Mo}{pl:List PI}(h:(floE x pl).1=0):Flo x pl (cutF pl pl.length):=by
 unfold floE at h
 by_cases hc:(yd x.2.1 pl).1≠0
 ·rw[if_pos hc]at h
  exact absurd h hc
 rw[if_neg hc]at h
 refine⟨Classical.not_not.1 hc,rfl,λn hn=>?_⟩
 cases hf:(List.range (cutF pl pl.length).length).findSome? (flwE x pl (cutF pl pl.length)) with
 |none=>exact zgA hf n hn
 |some p=>
  rw[hf]at h
  obtain⟨k,_,hk⟩:=List.exists_of_findSome?_eq_some hf
  exact absurd h (zp3 hk)
theorem Flo.flt{x:Mo}{pl:List PI}{fl:List FnL}(h:Flo x pl fl){n k i:Nat}(hn:n<fl.length)(hk:k<(fx fl n).bk.length)(hi:i<pl.length)(h1:(bx (fx fl n).bk k).2.1<=(i:Int))(h2:(i:Int)<(bx (fx fl n).bk k).2.2):fltU pl fl (nxF pl fl n) n k i=0:=by
 have h3:=h.no n hn
 unfold flwE at h3
 split at h3
 ·cases h3
 ·have h4:=zgA (g:=bodK pl fl n) h3 k hk
  have h5:=zgA h4 i hi
  refine Classical.byContradiction λhne=>?_
  rw[if_pos ⟨⟨h1,h2⟩,hne⟩]at h5
  cases h5
theorem Flo.gnw{x:Mo}{pl:List PI}{fl:List FnL}(h:Flo x pl fl){n:Nat}(hn:n<fl.length):(gnwE x pl (fx fl n)).1=0:=by
 have h3:=h.no n hn
 unfold flwE at h3
 split at h3
 ·cases h3
 ·rename_i h4
  exact Classical.not_not.1 h4
theorem zkD:frm 245=some ([79,112,80,104,105],true,true,[],[105,105],0,8):=by kernel_rfl
theorem zie{bd:Int}{pl:List PI}(hs:(zM bd pl).1=0){k:Nat}(hk:k<pl.length)(h:(ix pl k).1=245){j:Nat}(hj:j<(ix pl k).2.2.2.length):((ix pl k).2.2.2.getD j ag0).1=1/\((ix pl k).2.2.2.getD j ag0).2.1≠0:=by
 have hf:=(zaX hs).2 k hk
 rw[Zl hk]at h hj⊢
 obtain⟨f,hf,_,_,h3,_⟩:=zbY hf
 rw[h,zkD]at hf
 cases hf
 have hw:=h3 j hj
 unfold werr at hw
 have hl:letP (([79,112,80,104,105],true,true,[],[105,105],0,8):Fl) j=105:=by
  unfold letP
  rw[if_neg (by show ¬j<0;omega),if_neg (by decide),if_neg (by show ¬(0<0/\_);omega)]
  have hm:j % 2=0\/j % 2=1:=by omega
  show(([105,105]:Bs).getD ((j-0) % 2) 0).toNat=105
  rw[Nat.sub_zero]
  rcases hm with e |e<;>rw[e]<;>rfl
 rw[hl]at hw
 have hk1:=(zbc hw).2
 have hk1:(pl[k].2.2.2.getD j ag0).1=1:=hk1
 exact⟨hk1,zld hw hk1⟩
theorem zmg{ty:Int}{al:List Ag}{j:Nat}(hj:j<al.length)(h:(al.getD j ag0).1=1):(al.getD j ag0).2.1∈idsP ty al:=by
 rw[zs hj]at h⊢
 unfold idsP idsN
 refine List.mem_append_right _ (List.mem_map.2 ⟨al[j],List.mem_filter.2 ⟨?_,by simp[h]⟩,rfl⟩)
 rw[List.take_length]
 exact List.getElem_mem hj
structure Wy (pl:List PI) (fl:List FnL) (n:Nat) (V:List Nat) (k:Nat) (D:List Int) (fr:Int):Prop where
 hk:k<(fx fl n).bk.length
 re:zJ (nxF pl fl n) (-1) k
 av:∀h,h ∉ V->h≠k->zJ (nxF pl fl n) (h:Int) k
 ps:∀q∈(fx fl n).ps,(ix pl q.toNat).2.2.1∈D
 vd:∀h∈V,∀i:Nat,(bx (fx fl n).bk h).2.1<(i:Int)->(i:Int)<(bx (fx fl n).bk h).2.2->(ix pl i).2.2.1≠0->(ix pl i).2.2.1∈D
 fr:fr=0\/∃p,p∈V/\p<(fx fl n).bk.length/\fr=(bx (fx fl n).bk p).1/\zJ (nxF pl fl n) (-1) p/\∀h,h ∉ V->zJ (nxF pl fl n) (h:Int) p
section
variable {x:Mo} {pl:List PI} {fl:List FnL} {n k i:Nat} {V:List Nat} {D:List Int} {fr id:Int}
theorem Wy.more(h:Wy pl fl n V k D fr){D':List Int}(hD:∀y∈D,y∈D'):Wy pl fl n V k D' fr:=
 ⟨h.hk,h.re,h.av,λq hq=>hD _ (h.ps q hq),λb hb i h1 h2 h3=>hD _ (h.vd b hb i h1 h2 h3),h.fr⟩
theorem Wy.next(h:Wy pl fl n V k D fr)(ok:NxOk (nxF pl fl n))(hd:∀j:Nat,(bx (fx fl n).bk k).2.1<(j:Int)->(j:Int)<(bx (fx fl n).bk k).2.2->(ix pl j).2.2.1≠0->(ix pl j).2.2.1∈D){t:Nat}(ht:t∈(nxF pl fl n).getD k []) :
  Wy pl fl n (k::V) t D (bx (fx fl n).bk k).1:=by
 have hl:=zj6 pl fl n
 refine⟨by have:=ok.rows k t ht;omega,.step h.re ht (by omega),λg h1 h2=>?_,h.ps,λg hg i h1 h2 h3=>?_,.inr ⟨k,List.mem_cons_self ..,h.hk,rfl,h.re,λg hg=>?_⟩⟩
 ·rw[List.mem_cons,not_or]at h1
  exact .step (h.av g h1.2 h1.1) ht (by omega)
 ·rcases List.mem_cons.1 hg with rfl |hg
  ·exact hd i h1 h2 h3
  ·exact h.vd g hg i h1 h2 h3
 ·rw[List.mem_cons,not_or]at hg
  exact h.av g hg.2 hg.1
theorem Wy.home(F:Fls pl fl)(hn:n<fl.length)(h:Wy pl fl n V k D fr){hh:Hm}(hh1:hmO pl fl id=some hh)(hl:hh.2.2.2.1=false)(hs:othP pl fl n id=false)
  {p:Nat} {q:Int} (hre:zJ (nxF pl fl n) (-1) p) (hm:mayU pl fl (nxF pl fl n) n id p q=true) (hin:∀b:Nat,b<(fx fl n).bk.length->b≠p->¬zJ (nxF pl fl n) (b:Int) p->b∈V)
  (hp:∀j:Nat,(bx (fx fl n).bk p).2.1<(j:Int)->(j:Int)<(bx (fx fl n).bk p).2.2->(j:Int)<q->(ix pl j).2.2.1≠0->(ix pl j).2.2.1∈D):id∈D:=by
 obtain⟨m,i,e1,e2,e3,e4,e5,e6,e7,e8,e9⟩:=F.home_inv hh1
 have hmn:m=n:=by
  unfold othP at hs
  rw[hh1]at hs
  have:hh.1=(n:Int):=by simpa using hs
  omega
 subst hmn
 obtain⟨h3,h4⟩:=znF hh1 e1
 have hown:ownP pl fl m id=true:=by
  unfold ownP
  rw[hh1]
  show(hh.1==(m:Int)&&!hh.2.2.2.1)=true
  rw[hl,e1]
  simp
 rcases e9 with⟨g1,g2,_⟩ | ⟨b,hb,g1,g2,g3,g4⟩
 ·have:=h.ps _ g2
  rw[Int.toNat_natCast,e5]at this
  exact this
 ·have hlt:(bx (fx fl m).bk b).2.1<(i:Int):=by
   obtain⟨f,t,hbx,_,_,hop,_,_⟩:=F.bl e2 hb
   rw[hbx]at g2⊢
   refine Classical.byContradiction λhge=>?_
   have:i=f:=by dsimp only at g2 hge;omega
   subst this
   rw[hl,hop]at g4
   cases g4
  have hbo:bkO (fx fl m).bk (mkA pl id)=some b:=by rw[<-h4,e4];exact F.bkO_at e2 hb g2 g3
  unfold mayU at hm
  rw[if_pos ⟨hown,hre⟩,hbo]at hm
  by_cases eb:b=p
  ·subst eb
   have hm:(if b=b then decide (mkA pl id<q) else _)=true:=hm
   rw[if_pos rfl,decide_eq_true_eq,<-h4,e4]at hm
   rw[<-e5]
   exact hp i hlt g3 hm (by rw[e5];exact e6)
  ·have hm:(if b=p then _ else(by classical exact decide (¬zJ (nxF pl fl m) (b:Int) p)))=true:=hm
   rw[if_neg eb]at hm
   have hm:¬zJ (nxF pl fl m) (b:Int) p:=by classical exact of_decide_eq_true hm
   rw[<-e5]
   exact h.vd b (hin b hb eb hm) i hlt g3 (by rw[e5];exact e6)
theorem Wy.named(F:Fls pl fl)(hF:Flo x pl fl)(hn:n<fl.length)(h:Wy pl fl n V k D fr)(hi:i<pl.length)(h1:(bx (fx fl n).bk k).2.1<=(i:Int))(h2:(i:Int)<(bx (fx fl n).bk k).2.2)(hop:(ix pl i).1≠245)
  (hd:∀j:Nat,(bx (fx fl n).bk k).2.1<(j:Int)->j<i->(ix pl j).2.2.1≠0->(ix pl j).2.2.1∈D) (hid:id∈zN pl i) {hh:Hm} (hh1:hmO pl fl id=some hh) (hl:hh.2.2.2.1=false):id∈D:=by
 have hf:=hF.flt hn h.hk hi h1 h2
 rw[zjt]at hf
 have hsc:zaW pl fl n i=0:=by
  refine Classical.byContradiction λg=>?_
  rw[if_pos g]at hf
  exact g hf
 have hot:othP pl fl n id=false:=by
  unfold zaW at hsc
  cases ho:othP pl fl n id with
  |false=>rfl
  |true=>rw[if_pos (List.any_eq_true.2 ⟨id,hid,ho⟩)]at hsc;cases hsc
 rw[if_neg (λg=>g hsc)]at hf
 have hph:phiU pl fl (nxF pl fl n) n k i=0:=by unfold phiU;rw[if_pos hop]
 rw[if_neg (λg=>g hph)]at hf
 unfold useU at hf
 rw[if_pos hop]at hf
 have hm:mayU pl fl (nxF pl fl n) n id k i=true:=by
  cases hm:mayU pl fl (nxF pl fl n) n id k i with
  |true=>rfl
  |false=>rw[if_pos (List.any_eq_true.2 ⟨id,hid,by rw[hm];rfl⟩)]at hf;cases hf
 exact h.home F hn hh1 hl hot h.re hm (λb _ hb hr=>Classical.byContradiction λhv=>hr (h.av b hv hb)) λj j1 j2 j3 j4=>hd j j1 (by omega) j4
theorem Wy.value(F:Fls pl fl)(hF:Flo x pl fl)(hs:(zM x.2.1 pl).1=0)(hn:n<fl.length)(h:Wy pl fl n V k D fr)(hi:i<pl.length)(h1:(bx (fx fl n).bk k).2.1<=(i:Int))(h2:(i:Int)<(bx (fx fl n).bk k).2.2)(hop:(ix pl i).1=245)
  {j:Nat} (hj:2*j+1<(ix pl i).2.2.2.length) (hfr:((ix pl i).2.2.2.getD (2*j+1) ag0).2.1=fr) (hid:((ix pl i).2.2.2.getD (2*j) ag0).2.1=id) {hh:Hm} (hh1:hmO pl fl id=some hh) (hl:hh.2.2.2.1=false):id∈D:=by
 have hf:=hF.flt hn h.hk hi h1 h2
 rw[zjt]at hf
 have hidm:id∈zN pl i:=by
  rw[<-hid]
  exact zmg (by omega) (zie hs hi hop (by omega)).1
 have hsc:zaW pl fl n i=0:=by
  refine Classical.byContradiction λg=>?_
  rw[if_pos g]at hf
  exact g hf
 have hot:othP pl fl n id=false:=by
  unfold zaW at hsc
  cases ho:othP pl fl n id with
  |false=>rfl
  |true=>rw[if_pos (List.any_eq_true.2 ⟨id,hidm,ho⟩)]at hsc;cases hsc
 rw[if_neg (λg=>g hsc)]at hf
 have hph:phiU pl fl (nxF pl fl n) n k i=0:=by
  refine Classical.byContradiction λg=>?_
  rw[if_pos g]at hf
  exact g hf
 rw[if_neg (λg=>g hph)]at hf
 unfold useU at hf
 rw[if_neg (λg=>g hop)]at hf
 rcases h.fr with e | ⟨p,hpV,hpl,hpf,hpr,hpa⟩
 ·have:=(zie hs hi hop hj).2
  rw[hfr]at this
  exact absurd e this
 have hlb:lbN (fx fl n).bk ((ix pl i).2.2.2.getD (2*j+1) ag0).2.1=p:=by
  rw[hfr,hpf]
  unfold lbN
  rw[znN (F.lab _ (zgt hn)) hpl]
  rfl
 have hm:mayU pl fl (nxF pl fl n) n id p (bx (fx fl n).bk p).2.2=true:=by
  cases hm:mayU pl fl (nxF pl fl n) n id p (bx (fx fl n).bk p).2.2 with
  |true=>rfl
  |false=>
   rw[if_pos (List.any_eq_true.2 ⟨j,List.mem_range.2 (by omega),by rw[hlb,hid,hm];rfl⟩)]at hf
   cases hf
 exact h.home F hn hh1 hl hot hpr hm (λb _ _ hr=>Classical.byContradiction λhv=>hr (hpa b hv)) λi' j1 j2 _ j4=>h.vd p hpV i' j1 j2 j4
end
section
variable {x:Mo} {pl:List PI} {fl:List FnL} {w:World} {R:VWP} {id:Int}
theorem zhT(F:Fls pl fl)(hp:PlOk pl){fs:Sl}{L:List Fe}(hL:Fns w fs L)(hLc:L.map (·.1)=fl)(hN:IsPl w x.2.2.1 pl)(h0:id≠0)(hR:∀w' b,Below w.heap.size w w'->(b=true->∃hh,hmO pl fl id=some hh/\hh.2.2.2.1=false)->R (.bool b) w') :
  cR 16 #[moA x,.slice fs.a fs.l fs.c,.int .u32 id] w R:=by
 refine zc.of (zbf x fs id R w ?_) λ_ _ h=>h
 refine zl λw1 hB1 b1 z1=>?_
 have hB1:Blk w1 w.heap.size 25 (moV x):=hB1
 have hL1:=hL.below b1
 have hbound:L.length<=9223372036854775807:=(Own.isC YB (by omega) hL.own:IsC 5 feV w fs L).bound
 have hfl:L.length=fl.length:=by rw[<-hLc,List.length_map]
 have hll:=hL.len
 have hget:∀k (h:k<L.length),L[k].1=fx fl k:=λk h=>by
  unfold fx
  rw[zs (by omega)]
  have:(L.map (·.1))[k]'(by rwa[List.length_map])=fl[k]'(by omega):=by congr 1
  rwa[List.getElem_map]at this
 have hlen:=hp.len
 refine zj.count L.length hbound (λ_ w'=>w1=w') rfl ?_
 rintro n _ hn rfl next hnext
 refine zg (λg=>?_) (λg=>hR w1 false b1 λh=>by cases h)
 have hlt:n<L.length:=by dsimp only at g;omega
 have hnf:n<fl.length:=by omega
 obtain⟨a,e,q1,q2,q3,q4,q5,q6,T⟩:=F.tl hnf
 refine zpw hL1 hlt ?_
 rw[hget n hlt,q1]
 refine zj.ghost (λm (st:Int×Unit) w'=>w1=w'/\∃i:Nat,st=((i:Int),())/\a<i/\i<=e/\m=e-i) (e-(a+1)) ⟨rfl,a+1,by rw[zq (by omega)],by omega,by omega,rfl⟩ ?_
 rintro _ _ _ ⟨rfl,i,rfl,hai,hie,rfl⟩ next2 hnext2
 refine zpy hL1 hlt ?_
 rw[hget n hlt,q2]
 refine zg (λg2=>?_) (λg2=>hnext _ hlt rfl)
 have hlt2:i<e:=by dsimp only at g2;omega
 have hil:i<pl.length:=by omega
 have hix:=Zl hil
 have go:next2 (IntKind.i64.wrap ((i:Int)+1),()) w1:=by
  rw[zq (by omega)]
  exact hnext2 (e-(i+1)) _ w1 (by omega) ⟨rfl,i+1,rfl,by omega,by omega,rfl⟩
 refine zk.all (hB1.rS (n:=2) (x:=x.2.2.1) rfl (zjs (hN.below b1) hil (zm (λe1=>?_) (λ_=>go))))
 refine hB1.rS (n:=2) (x:=x.2.2.1) rfl (zjr (hN.below b1) hil (zz (λe2=>?_) (λ_=>go)))
 refine hR w1 true b1 λ_=>?_
 have e1:(ix pl i).2.2.1=id:=by rw[hix];exact e1
 have e2:(ix pl i).1≠248:=by rw[hix];exact e2
 unfold hmO
 rw[<-e1,F.make hil (by rw[e1];exact h0),F.fnO_at hnf (by omega) (by omega),Option.map_some]
 exact⟨_,rfl,by show((ix pl (Int.toNat (i:Int))).1==248)=false;rw[Int.toNat_natCast];exact beq_eq_false_iff_ne.2 e2⟩
theorem zhb{s:Sl}{l:List Int}{v:Int}(hs:IsS (Value.int .u32) w s l)(hR:R (.bool (l.contains v)) w):cR 17 #[.slice s.a s.l s.c,.int .u32 v] w R:=by
 refine zc.of (zaT s v R w ?_) λ_ _ h=>h
 have hl:=hs.len
 refine zj.count l.length hs.bound (λk w'=>w=w'/\∀j (h:j<l.length),j<k->l[j]≠v) ⟨rfl,λj _ h=>by omega⟩ ?_
 rintro k _ hk ⟨rfl,hj⟩ next hnext
 refine zg (λg=>?_) (λg=>?_)
 ·have hlt:k<l.length:=by dsimp only at g;omega
  refine zdy hs hlt (zm (λe=>?_) (λe=>hnext _ hlt ⟨rfl,λj h1 h2=>?_⟩))
  ·rw[List.contains_iff_mem.2 (by rw[<-e];exact List.getElem_mem hlt)]at hR
   exact hR
  ·by_cases ej:j=k
   ·subst ej;exact e
   ·exact hj j h1 (by omega)
 ·have:l.contains v=false:=by
   rw[<-Bool.not_eq_true,List.contains_iff_mem]
   intro hm
   obtain⟨j,h1,h2⟩:=List.getElem_of_mem hm
   exact hj j h1 (by dsimp only at g;omega) h2
  rw[this]at hR
  exact hR
end
end Go.Proofs
namespace Go.Proofs
open Go.Gk Go.RowKit Go.Gm Go.Gr
section
variable {x:Mo} {pl:List PI} {w:World} {R:VWP} {v:Fv} {f:FnL}
theorem zpA{bm:Nat}{c0 c1 c2 c3 c4:Addr}(hB:Blk w bm 25 (moV x))(hN:IsPl w x.2.2.1 pl)(hp:PlOk pl)(h0:0<=x.2.1)(hF:IsFn w v f)
  (k0:w.cell? c0=some (.int .u32 v.1)) (k1:w.cell? c1=some (.int .i64 v.2.1)) (k2:w.cell? c2=some (.slice v.2.2.1.a v.2.2.1.l v.2.2.1.c)) (k3:w.cell? c3=some (.slice v.2.2.2.1.a v.2.2.2.1.l v.2.2.2.1.c)) (k4:w.cell? c4=some (.int .i64 v.2.2.2.2.1))
  {M:(Option Addr)×Sl×Addr×Unit->World->Prop}
  (hM:∀w' p ms sb,Below w.heap.size w w'->Blk w' sb 29 [.int .i64 (gnwE x pl f).1,.int .i64 (gnwE x pl f).2]->GP w' p (nxE x pl f)->IsM w' ms (mvE x pl f)->M (p,ms,blk sb,()) w') :
  (cR 9 #[(.agg #[(.int .u32 x.1),(.int .u32 x.2.1),(.slice x.2.2.1.a x.2.2.1.l x.2.2.1.c)])] w λv50 w25=>
  ∃x51:(Int×Int×Sl×Unit),v50=(.agg #[(.int .u32 x51.1),(.int .u32 x51.2.1),(.slice x51.2.2.1.a x51.2.2.1.l x51.2.2.1.c)])/\
  w25.cell? c0=some (.int .u32 v.1)/\
  w25.cell? c1=some (.int .i64 v.2.1)/\
  w25.cell? c2=some (.slice v.2.2.1.a v.2.2.1.l v.2.2.1.c)/\
  w25.cell? c3=some (.slice v.2.2.2.1.a v.2.2.2.1.l v.2.2.2.1.c)/\
  w25.cell? c4=some (.int .i64 v.2.2.2.2.1)/\
  (cR 15 #[(.agg #[(.int .u32 x51.1),(.int .u32 x51.2.1),(.slice x51.2.2.1.a x51.2.2.1.l x51.2.2.1.c)]),(.agg #[(.int .u32 v.1),(.int .i64 v.2.1),(.slice v.2.2.1.a v.2.2.1.l v.2.2.1.c),(.slice v.2.2.2.1.a v.2.2.2.1.l v.2.2.2.1.c),(.int .i64 v.2.2.2.2.1)])] w25 λv52 w26=>
  ∃x53:Option Addr,∃x54:Sl,∃x55:(Int×Int×Unit),v52=(.tuple #[(.pointer x53),(.slice x54.a x54.l x54.c),(.agg #[(.int .i64 x55.1),(.int .i64 x55.2.1)])])/\
  Nw (w26.alloc (.cells #[(.int .i64 (0:Int)),(.int .i64 (0:Int))] 29)) λw27=>
  Wr w27 (blk w26.heap.size)/\
  Nw (w27.setCell (blk w26.heap.size) (.int .i64 x55.1)) λw28=>
  Wr w28 ((blk w26.heap.size).add 1)/\
  Nw (w28.setCell ((blk w26.heap.size).add 1) (.int .i64 x55.2.1)) λw29=>
  M (x53,x54,(blk w26.heap.size),()) w29)/\
  Nw (w25.alloc (.cells #[(.int .i64 (0:Int)),(.int .i64 (0:Int))] 29)) λw30=>
  w30.cell? c0=some (.int .u32 v.1)/\
  w30.cell? c1=some (.int .i64 v.2.1)/\
  w30.cell? c2=some (.slice v.2.2.1.a v.2.2.1.l v.2.2.1.c)/\
  w30.cell? c3=some (.slice v.2.2.2.1.a v.2.2.2.1.l v.2.2.2.1.c)/\
  w30.cell? c4=some (.int .i64 v.2.2.2.2.1)/\
  cR 15 #[(.agg #[(.int .u32 x51.1),(.int .u32 x51.2.1),(.slice x51.2.2.1.a x51.2.2.1.l x51.2.2.1.c)]),(.agg #[(.int .u32 v.1),(.int .i64 v.2.1),(.slice v.2.2.1.a v.2.2.1.l v.2.2.1.c),(.slice v.2.2.2.1.a v.2.2.2.1.l v.2.2.2.1.c),(.int .i64 v.2.2.2.2.1)])] w30 λv56 w31=>
  ∃x57:Option Addr,∃x58:Sl,∃x59:(Int×Int×Unit),v56=(.tuple #[(.pointer x57),(.slice x58.a x58.l x58.c),(.agg #[(.int .i64 x59.1),(.int .i64 x59.2.1)])])/\
  Wr w31 (blk w25.heap.size)/\
  Nw (w31.setCell (blk w25.heap.size) (.int .i64 x59.1)) λw32=>
  Wr w32 ((blk w25.heap.size).add 1)/\
  Nw (w32.setCell ((blk w25.heap.size).add 1) (.int .i64 x59.2.1)) λw33=>
  M (x57,x58,(blk w25.heap.size),()) w33)/\
  Nw (w.alloc (.cells #[(.int .i64 (0:Int)),(.int .i64 (0:Int))] 29)) λw34=>
  w34.cell? c0=some (.int .u32 v.1)/\
  w34.cell? c1=some (.int .i64 v.2.1)/\
  w34.cell? c2=some (.slice v.2.2.1.a v.2.2.1.l v.2.2.1.c)/\
  w34.cell? c3=some (.slice v.2.2.2.1.a v.2.2.2.1.l v.2.2.2.1.c)/\
  w34.cell? c4=some (.int .i64 v.2.2.2.2.1)/\
  w34.cell? ((blk bm).add 0)=some (.int .u32 x.1)/\
  w34.cell? ((blk bm).add 1)=some (.int .u32 x.2.1)/\
  w34.cell? ((blk bm).add 2)=some (.slice x.2.2.1.a x.2.2.1.l x.2.2.1.c)/\
  cR 9 #[(.agg #[(.int .u32 x.1),(.int .u32 x.2.1),(.slice x.2.2.1.a x.2.2.1.l x.2.2.1.c)])] w34 λv60 w35=>
  ∃x61:(Int×Int×Sl×Unit),v60=(.agg #[(.int .u32 x61.1),(.int .u32 x61.2.1),(.slice x61.2.2.1.a x61.2.2.1.l x61.2.2.1.c)])/\
  w35.cell? c0=some (.int .u32 v.1)/\
  w35.cell? c1=some (.int .i64 v.2.1)/\
  w35.cell? c2=some (.slice v.2.2.1.a v.2.2.1.l v.2.2.1.c)/\
  w35.cell? c3=some (.slice v.2.2.2.1.a v.2.2.2.1.l v.2.2.2.1.c)/\
  w35.cell? c4=some (.int .i64 v.2.2.2.2.1)/\
  cR 15 #[(.agg #[(.int .u32 x61.1),(.int .u32 x61.2.1),(.slice x61.2.2.1.a x61.2.2.1.l x61.2.2.1.c)]),(.agg #[(.int .u32 v.1),(.int .i64 v.2.1),(.slice v.2.2.1.a v.2.2.1.l v.2.2.1.c),(.slice v.2.2.2.1.a v.2.2.2.1.l v.2.2.2.1.c),(.int .i64 v.2.2.2.2.1)])] w35 λv62 w36=>
  ∃x63:Option Addr,∃x64:Sl,∃x65:(Int×Int×Unit),v62=(.tuple #[(.pointer x63),(.slice x64.a x64.l x64.c),(.agg #[(.int .i64 x65.1),(.int .i64 x65.2.1)])])/\
  Wr w36 (blk w.heap.size)/\
  Nw (w36.setCell (blk w.heap.size) (.int .i64 x65.1)) λw37=>
  Wr w37 ((blk w.heap.size).add 1)/\
  Nw (w37.setCell ((blk w.heap.size).add 1) (.int .i64 x65.2.1)) λw38=>
  M (x63,x64,(blk w.heap.size),()) w38:=by
 have gn:∀{w'} (ca:Nat) {R':VWP},Below w.heap.size w w'->IsPl w' ⟨some (blk ca),pl.length,pl.length⟩ pl->(∀w'' p ms,Below w'.heap.size w' w''->GP w'' p (nxE x pl f)->IsM w'' ms (mvE x pl f)->R' (.tuple #[.pointer p,.slice ms.a ms.l ms.c,.agg #[.int .i64 (gnwE x pl f).1,.int .i64 (gnwE x pl f).2]]) w'')->
   cR 15 #[moA (x.1,x.2.1,⟨some (blk ca),pl.length,pl.length⟩,()),fvA v] w' R':=λ{w'} ca {R'} hb hC hR'=>by
  refine znD (x:=(x.1,x.2.1,⟨some (blk ca),pl.length,pl.length⟩,())) (v:=v) (f:=f) hC hp h0 (hF.below hb) λw'' p ms hb' hG hM=>?_
  exact hR' w'' p ms hb' hG hM
 have kp:∀{w'},Below w.heap.size w w'->w'.cell? c0=some (.int .u32 v.1)/\w'.cell? c1=some (.int .i64 v.2.1)/\w'.cell? c2=some (.slice v.2.2.1.a v.2.2.1.l v.2.2.1.c)/\w'.cell? c3=some (.slice v.2.2.2.1.a v.2.2.2.1.l v.2.2.2.1.c)/\w'.cell? c4=some (.int .i64 v.2.2.2.2.1):=λhb=>
  ⟨zY hb k0,zY hb k1,zY hb k2,zY hb k3,zY hb k4⟩
 refine⟨?_,?_⟩
 ·refine ZC (x:=x) hN hp λcb w15 _ _ hC15 b15=>⟨(x.1,x.2.1,⟨some (blk cb),pl.length,pl.length⟩,()),rfl,?_⟩
  obtain⟨g0,g1,g2,g3,g4⟩:=kp b15
  refine⟨g0,g1,g2,g3,g4,?_,?_⟩
  ·refine gn cb b15 hC15 λw16 p ms b16 hG hM'=>⟨p,ms,((gnwE x pl f).1,(gnwE x pl f).2,()),rfl,?_⟩
   refine box2 rfl λw19 hS19 b19 z19=>hM w19 p ms w16.heap.size ((b15.on b16).on b19) hS19 (hG.below b19) (IsC.below zho hM' b19)
  ·refine zl λw20 hD20 b20 z20=>?_
   have hD20:Blk w20 w15.heap.size 29 [.int .i64 0,.int .i64 0]:=hD20
   have b1420:=b15.on b20
   obtain⟨g0,g1,g2,g3,g4⟩:=kp b1420
   refine⟨g0,g1,g2,g3,g4,?_⟩
   refine gn cb b1420 (hC15.below b20) λw21 p ms b21 hG hM'=>⟨p,ms,((gnwE x pl f).1,(gnwE x pl f).2,()),rfl,?_⟩
   have hD21:=hD20.below b21
   refine st2 hD21 rfl λw23 hS23 c23=>?_
   obtain⟨q1,q2⟩:=zk4 c23 hD21 hS23 hG hM'
   exact hM w23 p ms w15.heap.size (c23.below (b1420.on b21) b15.size) hS23 q1 q2
 ·refine zl λw24 hD24 b24 z24=>?_
  have hD24:Blk w24 w.heap.size 29 [.int .i64 0,.int .i64 0]:=hD24
  have hB24:=hB.below b24
  obtain⟨g0,g1,g2,g3,g4⟩:=kp b24
  refine⟨g0,g1,g2,g3,g4,hB24.cell (n:=0) rfl,hB24.cell (n:=1) rfl,hB24.cell (n:=2) rfl,?_⟩
  refine ZC (x:=x) (hN.below b24) hp λcb w25 _ _ hC25 b25=>⟨(x.1,x.2.1,⟨some (blk cb),pl.length,pl.length⟩,()),rfl,?_⟩
  have b1425:=b24.on b25
  obtain⟨g0,g1,g2,g3,g4⟩:=kp b1425
  refine⟨g0,g1,g2,g3,g4,?_⟩
  refine gn cb b1425 hC25 λw26 p ms b26' hG hM'=>⟨p,ms,((gnwE x pl f).1,(gnwE x pl f).2,()),rfl,?_⟩
  have hD26:=(hD24.below b25).below b26'
  refine st2 hD26 rfl λw28 hS28 c28=>?_
  obtain⟨q1,q2⟩:=zk4 c28 hD26 hS28 hG hM'
  exact hM w28 p ms w.heap.size (c28.below (b1425.on b26') (Nat.le_refl _)) hS28 q1 q2
theorem zoM{fs:Sl}{L:List Fe}(h:Fns w fs L){k:Nat}(hk:k<L.length){φ:Addr->Int->Int->Sl->Sl->Int->Prop}
  (hφ:∀a,(∀j u,j<5->(feV L[k])[j]? =some u->w.cell? ((a.add (Int.toNat (k:Int)*5)).add j)=some u)->φ a L[k].1.id L[k].1.at_ L[k].2.1 L[k].2.2 L[k].1.en) :
  (0<=(k:Int)/\(k:Int)<(fs.l:Int))/\za fs.a λa=>ldI w ((a.add (Int.toNat (k:Int)*5)).add 0) .u32 λx1=>ldI w ((a.add (Int.toNat (k:Int)*5)).add 1) .i64 λx2=>ldS w ((a.add (Int.toNat (k:Int)*5)).add 2) λx3=>ldS w ((a.add (Int.toNat (k:Int)*5)).add 3) λx4=>ldI w ((a.add (Int.toNat (k:Int)*5)).add 4) .i64 λx5=>φ a x1 x2 x3 x4 x5:=by
 have hc:IsC 5 feV w fs L:=Own.isC YB (by omega) h.own
 obtain⟨a,ha⟩:=hc.base hk
 have hcell:∀j u,j<5->(feV L[k])[j]? =some u->w.cell? ((a.add (Int.toNat (k:Int)*5)).add j)=some u:=λj u hj hu=>by rw[zy];exact(hc.cell a ha k hk j hj).trans hu
 exact⟨⟨by omega,by have:=h.len;omega⟩,ze ha ⟨_,hcell 0 _ (by omega) rfl,_,hcell 1 _ (by omega) rfl,_,hcell 2 _ (by omega) rfl,_,hcell 3 _ (by omega) rfl,_,hcell 4 _ (by omega) rfl,hφ a hcell⟩⟩
end
end Go.Proofs
namespace Go.Proofs
open Go.Gk Go.RowKit Go.Gm Go.Gr Go.Dm
theorem zkk{bd:Int}{pl:List PI}(hs:(zM bd pl).1=0){k:Nat}(hk:k<pl.length){id:Int}(h:id∈zN pl k):id≠0:=by
 have hf:=(zaX hs).2 k hk
 obtain⟨f,_,_,_,h3,_⟩:=zbY hf
 unfold zN idsP idsN at h
 rw[Zl hk,List.take_length]at h
 rcases List.mem_append.1 h with h |h
 ·split at h
  ·cases h
  ·rename_i hne
   rw[List.mem_singleton.1 h]
   exact hne
 ·obtain⟨a,ha,rfl⟩:=List.mem_map.1 h
  obtain⟨ha,hk1⟩:=List.mem_filter.1 ha
  obtain⟨j,hj,rfl⟩:=List.getElem_of_mem ha
  have hw:=h3 j hj
  unfold werr at hw
  rw[zs hj]at hw
  exact zld hw (by simpa using hk1)
theorem zoC{x:Mo}{pl:List PI}{fl:List FnL}{n:Nat}(F:Fls pl fl)(hn:n<fl.length)(ok:NxOk (nxF pl fl n)):Wy pl fl n [] 0 ((fx fl n).ps.map λq=>(ix pl q.toNat).2.2.1) 0:=by
 have hl:=zj6 pl fl n
 have hp:=ok.pos
 have h0:zJ (nxF pl fl n) (-1) 0:=.zero (by decide) hp
 refine⟨by omega,h0,λh _ h2=>?_,λq hq=>List.mem_map.2 ⟨q,hq,rfl⟩,λh hh=>(by cases hh),.inl rfl⟩
 exact .zero (by omega) hp
section
variable {x:Mo} {pl:List PI} {fl:List FnL} {w:World} {R:VWP} {q:Int} {s:Sl} {T:List Int}
theorem zn6{fs:Sl}{L:List Fe}(h:Fns w fs L){k:Nat}(hk:k<L.length){φ:Sl->Prop}(hφ:φ L[k].2.1):(0<=(k:Int)/\(k:Int)<(fs.l:Int))/\za fs.a λa=>ldS w ((a.add (Int.toNat (k:Int)*5)).add 2) φ:=by
 have hc:IsC 5 feV w fs L:=Own.isC YB (by omega) h.own
 obtain⟨a,ha⟩:=hc.base hk
 exact⟨⟨by omega,by have:=h.len;omega⟩,ze ha ⟨L[k].2.1,by rw[zy];exact hc.cell a ha k hk 2 (by omega),hφ⟩⟩
theorem zp0(h:IsS (Value.int .u8) w s T){k:Nat}(hk:k<T.length){φ:Int->Prop}(hφ:φ T[k]) :
  (0<=(k:Int)/\(k:Int)<(s.l:Int))/\za s.a λa=>ldI w (a.add (Int.toNat (k:Int))) .u8 φ:=h.addr hk λ_ _ hc=>⟨T[k],hc,hφ⟩
def NewW(x:Mo)(pl:List PI)(f:FnL)(w0:World)(st:(Option Addr)×(Option Addr)×Unit)(w':World):Prop:=
 ∃(p:Option Addr) (sb:Nat),st=(p,some (blk sb),())/\Blk w' sb 29 [.int .i64 (gnwE x pl f).1,.int .i64 (gnwE x pl f).2]/\GP w' p (nxE x pl f)/\Below w0.heap.size w0 w'
structure Md (w0 w:World) (r:Sl) (D:List Int):Prop where
 own:Own w 22 1 r (D.map (Value.int .u32))
 fr:zE w0.heap.size r
 below:Below w0.heap.size w0 w
theorem Md.on{w0 w w':World}{r:Sl}{D:List Int}(h:Md w0 w r D)(hb:Below w.heap.size w w'):Md w0 w' r D:=⟨h.own.below hb,h.fr,h.below.on hb⟩
theorem Md.len{w0 w:World}{r:Sl}{D:List Int}(h:Md w0 w r D):r.l=D.length:=by have:=h.own.1;rw[List.length_map]at this;omega
theorem Md.push{w0 w:World}{r:Sl}{D:List Int}{v:Int}(h:Md w0 w r D)(hl:D.length<=4398046511104){k:Sl->World->Prop}(hk:∀r' w',Md w0 w' r' (D++[v])->(∀b T cs,22≠T->Blk w b T cs->Blk w' b T cs)->k r' w') :
  Nw (w.alloc (.cells #[.int .u32 v] 22)) λw1=>zC Tryz.prog 46 (.slice r.a r.l r.c) (.slice (some (blk w.heap.size)) 1 1) w1 k:=by
 refine zl λw1 h1 b1 z1=>?_
 have h1:Blk w1 w.heap.size 22 [.int .u32 v]:=h1
 have hl2:=h.len
 have h2:=h.on b1
 refine zg8 eU32 h2.own h2.below h.fr (vs:=[.int .u32 v]) rfl (λu hu=>by rw[List.mem_singleton.1 hu];rfl) h1 (by omega) (by omega) λr' w' g1 g2 g3 _ g5=>hk r' w' ⟨?_,g3,g2⟩ λb T cs hne hB=>?_
 ·rw[List.map_append]
  exact g1
 ·have hB1:=hB.below b1
  exact hB1.of_block (g5 b hB1.lt (zib h2.own hB1 hne))
set_option maxHeartbeats 4000000 in
theorem zin(hN:IsPl w x.2.2.1 pl)(hp:PlOk pl)(hbd:0<=x.2.1/\x.2.1<=4294967295)(hT:IsS (Value.int .u8) w s T)(hT2:∀y∈T,0<=y/\y<=255)(hl1:pl.length<=1048576)(hl2:T.length<=1048576)
  (hR:∀w',Below w.heap.size w w'->R (.bool true) w'):cR 4 #[moA x,.int .i64 q,.slice s.a s.l s.c] w R:=by
 refine zc.of (YZ x q s R w ?_) λ_ _ h=>h
 refine zl λw1 hB1 b1 z1=>?_
 have hB1:Blk w1 w.heap.size 25 (moV x):=hB1
 refine zkU λw2 b2=>⟨true,rfl,zD rfl ?_⟩
 have hb2:=b1.on b2
 refine Mo.load (hB1.below b2) (ZC (x:=x) (hN.below hb2) hp λcb w3 _ _ hC3 b3=>⟨(x.1,x.2.1,⟨some (blk cb),pl.length,pl.length⟩,()),rfl,?_⟩)
 refine zdz (x:=(x.1,x.2.1,⟨some (blk cb),pl.length,pl.length⟩,())) hC3 hp hbd.1 λw4 b4=>⟨((floE x pl).1,(floE x pl).2,()),rfl,?_⟩
 have b24:=b3.on b4
 have hb4:=hb2.on b24
 refine zz (λ_=>hR w4 hb4) (λhfl=>?_)
 have hfl:(floE x pl).1=0:=hfl
 have hF:=zp2 hfl
 have F:=Fls.of hp hbd.1 hF.ok
 obtain⟨_,hlay,_⟩:=zf2 hF.ok
 have hsh:=zg0 hlay
 refine Mo.load ((hB1.below b2).below b24) (ZC (x:=x) (hN.below hb4) hp λcb2 w5 _ _ hC5 b5=>⟨(x.1,x.2.1,⟨some (blk cb2),pl.length,pl.length⟩,()),rfl,?_⟩)
 refine zhv (x:=(x.1,x.2.1,⟨some (blk cb2),pl.length,pl.length⟩,())) hC5 hp (λfs L w6 _ b6 hL6 hLc=>⟨fs,(0,0,()),rfl,?_⟩) (λw6 hne _=>absurd hlay hne)
 refine box2 rfl λw9 hS9 b9 z9=>?_
 have b49:=(b5.on b6).on b9
 have hb9:=hb4.on b49
 have hL9:=hL6.below b9
 have hB9:=((hB1.below b2).below b24).below b49
 have hsz:=zjZ pl pl.length
 generalize cutF pl pl.length=fl at *
 have hll:=hL9.len
 refine zk.cut (λ(_:Unit) w'=>w'=w9/\0<=q/\q<(L.length:Int)) ?_ ?_
 ·exact hS9.rI0 rfl (zD rfl (zg (λ_=>hS9.rI0 rfl (hR w9 hb9)) (λg1=>zg (λ_=>hS9.rI0 rfl (hR w9 hb9)) (λg2=>⟨rfl,by omega,by omega⟩))))
 rintro _ w10 ⟨rfl,h0,h1⟩
 obtain⟨n,rfl⟩:=Int.eq_ofNat_of_zero_le h0
 have hlt:n<L.length:=by omega
 have hLf:L.length=fl.length:=by rw[<-hLc,List.length_map]
 have hnf:n<fl.length:=by omega
 have hfe:L[n].1=fx fl n:=by
  unfold fx
  rw[zs hnf]
  have:(L.map (·.1))[n]'(by rwa[List.length_map])=fl[n]'hnf:=by congr 1
  rwa[List.getElem_map]at this
 have bd:Below w10.heap.size w10 w10.drew:=(Below.refl _ _).drew
 have hLd:=hL9.below bd
 have hBd:=hB9.below bd
 refine zk.cut (NewW x pl L[n].1 w10) ?_ ?_
 ·refine Mo.load hBd (zoM hLd hlt λa hcell=>?_)
  refine zpA (M:=λst w'=>NewW x pl L[n].1 w10 (st.1,some st.2.2.1,()) w') (x:=x) (v:=(L[n].1.id,L[n].1.at_,L[n].2.1,L[n].2.2,L[n].1.en,())) hBd (hN.below (hb9.on bd)) hp hbd.1 (hLd.isFn (List.getElem_mem hlt)) (hcell 0 _ (by omega) rfl) (hcell 1 _ (by omega) rfl) (hcell 2 _ (by omega) rfl) (hcell 3 _ (by omega) rfl) (hcell 4 _ (by omega) rfl) λw' p ms sb hb hS hG hM=>⟨p,sb,rfl,hS,hG,bd.on hb⟩
 rintro _ w25 ⟨p,sb,rfl,hS25,hG25,b25⟩
 have hgn:=hF.gnw hnf
 rw[hfe]at hS25 hG25
 have hnx:nxE x pl (fx fl n)=nxF pl fl n:=by unfold nxE;rw[if_pos hgn]
 rw[hnx]at hG25
 have ok:NxOk (nxF pl fl n):=by
  rcases hG25 with⟨_,e⟩ | ⟨_,_,e,_⟩
  ·have h1:=zj6 pl fl n
   rw[e]at h1
   have h2:=(F.fn _ (zgt hnf)).ne
   exact absurd (List.length_eq_zero_iff.1 h1.symm) h2
  ·exact e
 refine ze rfl (hS25.rI0 rfl (zz (λe=>absurd hgn e) (λ_=>?_)))
 have hb25:=hb9.on b25
 have hL25:=hL9.below b25
 have hB25:=hB9.below b25
 have hN25:=hN.below hb25
 have hT25:=hT.below hb25
 have hFn25:=hL25.isFn (List.getElem_mem hlt)
 rw[hfe]at hFn25
 have hps25:IsI w25 L[n].2.1 (fx fl n).ps:=hFn25.ps
 have hbk25:IsBk w25 L[n].2.2 (fx fl n).bk:=hFn25.bk
 have hpsn:=(hsz.2 _ (zgt hnf)).1
 have hpsl:=hps25.len
 refine zj.countSl (fx fl n).ps.length (by omega) (λk r w'=>Md w25 w' r (((fx fl n).ps.take k).map λq=>(ix pl q.toNat).2.2.1)) ⟨by simpa using Own.nil _ _ _,λa ha=>(by cases ha),Below.refl _ _⟩ ?_
 intro k r w26 hk hM26 next hnext
 have b26:=hM26.below
 refine zn6 (hL25.below b26) hlt (zg (λg=>?_) (λg=>?_))
 ·have hkl:k<(fx fl n).ps.length:=by dsimp only at g;omega
  have bd:Below w26.heap.size w26 w26.drew:=(Below.refl _ _).drew
  have bd6:=b26.on bd
  refine(hB25.below bd6).rS (n:=2) (x:=x.2.2.1) rfl (zn6 (hL25.below bd6) hlt (zbX (hps25.below bd6) hkl ?_))
  obtain⟨m,hm1,hm2,_⟩:=F.homeP hnf (List.getElem_mem hkl)
  rw[hm1]
  refine zjs (hN25.below bd6) hm2 ((hM26.on bd).push (by rw[List.length_map,List.length_take];omega) λr' w' h' _=>hnext r' w' hkl ?_)
  rw[List.take_succ_eq_append_getElem hkl,List.map_append,List.map_cons,List.map_nil,hm1,Int.toNat_natCast,Zl hm2]
  exact h'
 have hke:k=(fx fl n).ps.length:=by dsimp only at g;omega
 rw[hke,List.take_length]at hM26
 refine zj.ghost (λm (st:Sl×Int×Int×Int×Unit) w'=>∃(r:Sl) (k:Nat) (fr:Int) (t:Nat) (D:List Int) (V:List Nat),st=(r,(k:Int),fr,(t:Int),())/\t<=T.length/\m=T.length-t/\Md w25 w' r D/\Wy pl fl n V k D fr/\D.length<=(t+1)*1048576)
  T.length ⟨r,0,0,0,_,[],rfl,Nat.zero_le _,rfl,hM26,zoC (x:=x) F hnf ok,by rw[List.length_map];omega⟩ ?_
 rintro _ _ w29 ⟨r,k,fr,t,D,V,rfl,ht,rfl,hM29,hW,hD⟩ next2 hnext2
 have b29:=hM29.below
 have hTl:=hT.len
 refine zg (λ_=>?_) (λg=>absurd (show(t:Int)<=(s.l:Int) by omega) g)
 have hkb:=hW.hk
 have hbx:bx (fx fl n).bk k=(fx fl n).bk[k]:=zs hkb
 obtain⟨f,e,hb1,hb2,hb3,_,_,hb6⟩:=F.bl hnf hkb
 have hbE:(fx fl n).bk[k]=((ix pl f).2.2.1,(f:Int),(e:Int)):=by rw[<-hbx,hb1]
 refine zpx (hL25.below b29) hlt (zgo (IsC.below yN hbk25 b29) hkb (box3 rfl λw33 hX33 b33 z33=>?_))
 rw[hbE]at hX33
 have hX33:Blk w33 w29.heap.size 52 [.int .u32 (ix pl f).2.2.1,.int .i64 (f:Int),.int .i64 (e:Int)]:=hX33
 refine hX33.rI (n:=1) (x:=(f:Int)) rfl ?_
 have hlen:=hp.len
 have in1:∀j:Nat,f<j->j<e->(bx (fx fl n).bk k).2.1<=(j:Int)/\(j:Int)<(bx (fx fl n).bk k).2.2:=λj h1 h2=>by rw[hb1];dsimp only;omega
 refine zj.ghost (λm (st:Sl×Int×Unit) w'=>∃(r:Sl) (i:Nat) (D':List Int),st=(r,(i:Int),())/\f<i/\i<=e/\m=e-i/\Md w25 w' r D'/\Blk w' w29.heap.size 52 [.int .u32 (ix pl f).2.2.1,.int .i64 (f:Int),.int .i64 (e:Int)]/\(∀y∈D,y∈D')/\(∀j,f<j->j<i->(ix pl j).2.2.1≠0->(ix pl j).2.2.1∈D')/\D'.length<=D.length+(i-(f+1)))
  (e-(f+1)) ⟨r,f+1,D,by rw[zq (by omega)],by omega,by omega,rfl,hM29.on b33,hX33,λ_ h=>h,λj h1 h2=>by omega,by omega⟩ ?_
 rintro _ _ w34 ⟨r,i,D',rfl,hi1,hi2,rfl,hM34,hX34,hDD,hmd,hDl⟩ next3 hnext3
 have b34':=hM34.below
 have hW':=hW.more hDD
 refine hX34.rI (n:=2) (x:=(e:Int)) rfl (zg (λg=>?_) (λg=>?_))
 ·have hie:i<e:=by dsimp only at g;omega
  have hil:i<pl.length:=by omega
  have hix:=Zl hil
  obtain⟨i1,i2⟩:=in1 i hi1 hie
  have go:∀(r':Sl) (D2:List Int) w',Md w25 w' r' D2->Blk w' w29.heap.size 52 [.int .u32 (ix pl f).2.2.1,.int .i64 (f:Int),.int .i64 (e:Int)]->(∀y∈D',y∈D2)->((ix pl i).2.2.1≠0->(ix pl i).2.2.1∈D2)->D2.length<=D'.length+1->next3 (r',IntKind.i64.wrap ((i:Int)+1),()) w':=λr' D2 w' q1 q2 q3 q4 q5=>by
   rw[zq (by omega)]
   refine hnext3 (e-(i+1)) _ w' (by omega) ⟨r',i+1,D2,rfl,by omega,by omega,rfl,q1,q2,λy hy=>q3 y (hDD y hy),λj j1 j2 j3=>?_,by omega⟩
   by_cases ej:j=i
   ·subst ej;exact q4 j3
   ·exact q3 _ (hmd j j1 (by omega) j3)
  refine zk.all ((hB25.below b34').rS (n:=2) (x:=x.2.2.1) rfl (zaO (hN25.below b34') hil λtl hI=>box4 rfl λw39 hI39 b39 z39=>?_))
  have hI39:Blk w39 w34.heap.size 50 (inV (mkIn pl[i] tl)):=hI39
  have b39':=b34'.on b39
  have hA39:=hI.below b39
  have hop:(ix pl i).1=pl[i].1:=by rw[hix]
  have has:(ix pl i).2.2.2=pl[i].2.2.2:=by rw[hix]
  refine zk.cut (λ(_:Unit) w'=>Below w39.heap.size w39 w') ?_ ?_
  ·refine hI39.rI0 rfl (zm (λe245=>?_) (λhne=>?_))
   ·have e245:(ix pl i).1=245:=by rw[hop];exact e245
    have hev:=F.phi i hil e245
    rw[has]at hev
    have htl:=hI.len
    have hal:=hp.args _ (List.getElem_mem hil)
    refine zj.ghost (λm (st:Int×Unit) w'=>∃j:Nat,st=(((2*j:Nat):Int),())/\2*j<=pl[i].2.2.2.length/\m=pl[i].2.2.2.length-2*j/\Below w39.heap.size w39 w') pl[i].2.2.2.length ⟨0,rfl,Nat.zero_le _,rfl,Below.refl _ _⟩ ?_
    rintro _ _ w40 ⟨j,rfl,hj,rfl,b40⟩ next4 hnext4
    have hI40:=hI39.below b40
    have e1:IntKind.i64.wrap (((2*j:Nat):Int)+1)=((2*j+1:Nat):Int):=zq (by omega)
    have e2:IntKind.i64.wrap (((2*j:Nat):Int)+2)=((2*(j+1):Nat):Int):=(zlT (by omega)).1
    refine hI40.rS (n:=3) (x:=tl) rfl ?_
    dsimp only
    rw[e1,e2]
    refine zg (λg2=>?_) (λg2=>b40)
    have hj1:2*j+1<pl[i].2.2.2.length:=by omega
    have bd:Below w40.heap.size w40 w40.drew:=(Below.refl _ _).drew
    have bd4:=b40.on bd
    refine zk.cut (λ(_:Unit) w'=>Below w39.heap.size w39 w') ?_ λ_ w43 b43=>hnext4 (pl[i].2.2.2.length-2*(j+1)) _ w43 (by omega) ⟨j+1,rfl,by omega,rfl,b43⟩
    refine hI40.drew.rS (n:=3) (x:=tl) rfl (zeJ (hA39.below bd4) hj1 (zm (λhfr=>?_) (λ_=>bd4)))
    have hb4':=b39'.on bd4
    refine Mo.load (hB25.below hb4') (hI40.drew.rS (n:=3) (x:=tl) rfl (zeJ (hA39.below bd4) (k:=2*j) (by omega) ?_))
    have hidm:pl[i].2.2.2[2*j].2.1∈zN pl i:=by
     have:=zmg (ty:=(ix pl i).2.1) (al:=(ix pl i).2.2.2) (j:=2*j) (by rw[has];omega) (zie hsh hil e245 (by rw[has];omega)).1
     rw[has,zs (by omega)]at this
     unfold zN
     rw[has]
     exact this
    refine zhT F hp (hL25.below hb4') hLc (hN25.below hb4') (zkk hsh hil hidm) λw41 b b41 hloc=>⟨b,rfl,?_⟩
    cases b with
    |false=>exact zD rfl (bd4.on b41)
    |true=>
     obtain⟨hh,hh1,hh2⟩:=hloc rfl
     have bd41:=bd4.on b41
     refine zF rfl ((hI40.drew.below b41).rS (n:=3) (x:=tl) rfl (zeJ (hA39.below bd41) (k:=2*j) (by omega) ?_))
     refine zhb ((hM34.on (b39.on bd41)).own.isS) ⟨_,rfl,zH (zF ?_ bd41)⟩
     rw[List.contains_iff_mem]
     refine hW'.value F hF hsh hnf hil i1 i2 e245 (j:=j) (by rw[has];exact hj1) ?_ ?_ hh1 hh2
     ·rw[has,zs hj1];exact hfr
     ·rw[has,zs (by omega)]
   ·have hne:(ix pl i).1≠245:=by rw[hop];exact hne
    refine Ins.load (x:=mkIn pl[i] tl) hI39 (zfb (x:=mkIn pl[i] tl) hA39 (hp.at hil) λrs w44 hr44 _ b44=>⟨rs,rfl,?_⟩)
    have hids:idsP pl[i].2.1 pl[i].2.2.2=zN pl i:=by unfold zN;rw[hix]
    have hr44:Own w44 22 1 rs ((zN pl i).map (Value.int .u32)):=by rw[<-hids];exact hr44
    have hS44:=hr44.isS
    have hSl:=hS44.len
    refine zj.count (zN pl i).length hS44.bound (λ_ w'=>Below w44.heap.size w44 w') (Below.refl _ _) ?_
    intro j w45 hj b45 next4 hnext4
    refine zg (λg2=>?_) (λg2=>b44.on b45)
    have hj1:j<(zN pl i).length:=by dsimp only at g2;omega
    have bd:Below w45.heap.size w45 w45.drew:=(Below.refl _ _).drew
    have bd4:=b45.on bd
    refine zk.cut (λ(_:Unit) w'=>Below w44.heap.size w44 w') ?_ λ_ w48 b48=>hnext4 w48 hj1 b48
    have hb4':=(b39'.on b44).on bd4
    refine Mo.load (hB25.below hb4') (zdy (hS44.below bd4) hj1 ?_)
    refine zhT F hp (hL25.below hb4') hLc (hN25.below hb4') (zkk hsh hil (List.getElem_mem hj1)) λw46 b b46 hloc=>⟨b,rfl,?_⟩
    cases b with
    |false=>exact zD rfl (bd4.on b46)
    |true=>
     obtain⟨hh,hh1,hh2⟩:=hloc rfl
     have bd46:=bd4.on b46
     refine zF rfl (zdy (hS44.below bd46) hj1 ?_)
     refine zhb ((hM34.on ((b39.on b44).on bd46)).own.isS) ⟨_,rfl,zH (zF ?_ bd46)⟩
     rw[List.contains_iff_mem]
     exact hW'.named F hF hnf hil i1 i2 hne (λj' j1 j2 j3=>hmd j' (by rw[hb1]at j1;dsimp only at j1;omega) j2 j3) (List.getElem_mem hj1) hh1 hh2
  ·intro _ w49 b49
   have hI49:=hI39.below b49
   have b3449:=b39.on b49
   refine hI49.rI (n:=2) (x:=pl[i].2.2.1) rfl (zz (λhne=>?_) (λhe=>?_))
   ·refine hI49.rI (n:=2) (x:=pl[i].2.2.1) rfl ((hM34.on b3449).push (by omega) λr' w' h' hkp=>?_)
    refine go r' _ w' h' (hkp _ _ _ (by decide) (hX34.below b3449)) (λy hy=>List.mem_append_left _ hy) (λ_=>by rw[hix];exact List.mem_append_right _ (List.mem_singleton.2 rfl)) (by rw[List.length_append];exact Nat.le_refl _)
   ·exact go r D' w49 (hM34.on b3449) (hX34.below b3449) (λ_ h=>h) (λh=>absurd (by rw[hix];exact he) h) (by omega)
 ·have hie:i=e:=by dsimp only at g;omega
  subst hie
  refine GP.next (hG25.below b34') (i:=(k:Int)) λrn w53 hO53 _ b53=>⟨rn,rfl,?_⟩
  rw[zck]at hO53
  have hI53:IsI w53 rn (((nxF pl fl n).getD k []).map λ(t:Nat)=>(t:Int)):=Own.isS (by rw[List.map_map];exact hO53)
  have hb53:=hb25.on (b34'.on b53)
  refine zk.cut (λ(_:Unit) w'=>w'=w53/\t<T.length/\0<((nxF pl fl n).getD k []).length) ?_ ?_
  ·have hrl:=hI53.len
   rw[List.length_map]at hrl
   exact zm (λ_=>hR w53 hb53) (λg1=>zm (λ_=>hR w53 hb53) (λg2=>⟨rfl,by dsimp only at g1;omega,by omega⟩))
  rintro _ w54 ⟨rfl,htl,hrow⟩
  have hrl:=hI53.len
  rw[List.length_map]at hrl
  refine(hX34.below b53).rI0 rfl (zp0 ((hT25.below b34').below b53) htl (zg (λg3=>absurd g3 (by omega)) (λ_=>?_)))
  obtain⟨y1,y2⟩:=hT2 _ (List.getElem_mem htl)
  obtain⟨y,hy⟩:=Int.eq_ofNat_of_zero_le y1
  have hmod:Int.tmod (IntKind.i64.wrap T[t]) (rn.l:Int)=((y % ((nxF pl fl n).getD k []).length:Nat):Int):=by
   rw[hy,zt (by omega) (by omega),<-hrl,<-Int.ofNat_tmod]
  rw[hmod]
  have hlt2:y % ((nxF pl fl n).getD k []).length<((nxF pl fl n).getD k []).length:=Nat.mod_lt _ hrow
  refine zbX hI53 (by rwa[List.length_map]) ?_
  rw[List.getElem_map,zq (by omega)]
  have hbe:(bx (fx fl n).bk k).1=(ix pl f).2.2.1:=by rw[hb1]
  refine hnext2 (T.length-(t+1)) _ w54 (by omega) ⟨r,_,(ix pl f).2.2.1,t+1,D',k::V,rfl,by omega,rfl,hM34.on b53,?_,by omega⟩
  rw[<-hbe]
  exact hW'.next ok (λj j1 j2 j3=>hmd j (by rw[hb1]at j1;dsimp only at j1;omega) (by rw[hb1]at j2;dsimp only at j2;omega) j3) (List.getElem_mem hlt2)
end
end Go.Proofs
