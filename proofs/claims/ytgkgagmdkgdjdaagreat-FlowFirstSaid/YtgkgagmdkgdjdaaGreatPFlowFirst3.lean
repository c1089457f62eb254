/- FlowFirst, part 3; made small by a program. -/
import Derived.Laws.Strings
import Derived.MapKept
import Derived.Test.YtgkgagmdkgdjdaaGreatProg
import Derived.Test.YtgkgagmdkgdjdaaGreatPFlowFirst2
namespace Go.Gm
open Go.Gk
abbrev Bs:=List UInt8
def bs(l:Bs):ByteArray:=⟨l.toArray⟩
theorem zjr(a b:Bs):bs a++bs b=bs (a++b):=by
 apply ByteArray.ext
 simp[bs,ByteArray.data_append]
theorem yl(a:Bs):(bs a).size=a.length:=by simp[bs,ByteArray.size]
theorem zkc(a:Bs)(k:Nat):za8 (bs a) (k:Int)=((a.getD k 0).toNat:Int):=by
 unfold za8 bs
 rw[Int.toNat_natCast]
 simp[Array.getD_eq_getD_getElem?]
theorem ZT{a:Bs}:((bs a).toList==(BM #[]).toList)=a.isEmpty:=by
 rw[ByteArray.toList_eq,ByteArray.toList_eq]
 cases a with
 |nil=>rfl
 |cons x r=>rfl
theorem zt{α:Type}{l:List α}{i:Nat}{d:α}(h:i<l.length):l.getD i d=l[i]:=by simp[List.getD,h]
def look{α:Type}:List (Int×α)->Int->Option α
 | [],_=>none
 |p::r,n=>if n=p.1 then some p.2 else look r n
def zjt{α:Type}:List (Int×α)->Int->(α->Prop)->Prop->Prop
 | [],_,_,d=>d
 |p::r,n,f,d=>ifB (n==p.1) (f p.2) (zjt r n f d)
theorem zcy{α:Type}{n:Int}{f:α->Prop}{d:Prop}:∀{tab:List (Int×α)},(∀x,look tab n=some x->f x)->(look tab n=none->d)->zjt tab n f d
 | [],_,h2=>h2 rfl
 |p::r,h1,h2=>zm (λe=>h1 p.2 (by simp[look,e])) (λe=>zcy (λx hx=>h1 x (by simp[look,e,hx])) (λhx=>h2 (by simp[look,e,hx])))
theorem Z0{α:Type}(n:Int):∀a b:List (Int×α),look (a++b) n=(look a n).or (look b n)
 | [],b=>by simp[look]
 |p::r,b=>by
  simp only[List.cons_append,look]
  split
  ·rfl
  ·exact Z0 n r b
theorem ZI{α:Type}{n:Int}{x:α}:∀{a:List (Int×α)},look a n=some x->(n,x)∈a
 |p::r,h=>by
  simp only[look]at h
  split at h
  ·rename_i e
   cases h
   subst e
   exact List.mem_cons_self
  ·exact List.mem_cons_of_mem _ (ZI h)
theorem YK{α:Type}{n:Int}:∀{a:List (Int×α)},(∀p∈a,p.1≠n)->look a n=none
 | [],_=>rfl
 |p::r,h=>by
  rw[look,if_neg λe=>h p List.mem_cons_self e.symm]
  exact YK λq hq=>h q (List.mem_cons_of_mem _ hq)
theorem zlh{α β:Type}(g:α->β)(n:Int):∀a:List (Int×α),look (a.map λp=>(p.1,g p.2)) n=(look a n).map g
 | []=>rfl
 |p::r=>by
  simp only[List.map_cons,look]
  split
  ·rfl
  ·exact zlh g n r
abbrev Fl:=Bs×Bool×Bool×Bs×Bs×Nat×Nat
def tabA:List (Int×Bs):=
 [(1,[79,112,85,110,100,101,102,32,84,82,32,32,32,32,55]),
  (3,[79,112,83,111,117,114,99,101,32,32,108,110,32,32,32,52]),
  (5,[79,112,78,97,109,101,32,32,105,115,32,32,32,53]),
  (6,[79,112,77,101,109,98,101,114,78,97,109,101,32,32,105,110,115,32,32,32,53]),
  (7,[79,112,83,116,114,105,110,103,32,82,32,115,32,32,32,52]),
  (14,[79,112,77,101,109,111,114,121,77,111,100,101,108,32,32,97,109,32,32,32,49]),
  (15,[79,112,69,110,116,114,121,80,111,105,110,116,32,32,101,105,115,32,105,32,32,50]),
  (16,[79,112,69,120,101,99,117,116,105,111,110,77,111,100,101,32,32,105,120,32,32,32,51]),
  (17,[79,112,67,97,112,97,98,105,108,105,116,121,32,32,107,32,32,32,48]),
  (19,[79,112,84,121,112,101,86,111,105,100,32,82,32,32,32,32,55]),
  (20,[79,112,84,121,112,101,66,111,111,108,32,82,32,32,32,32,55]),
  (21,[79,112,84,121,112,101,73,110,116,32,82,32,110,110,32,32,32,55]),
  (23,[79,112,84,121,112,101,86,101,99,116,111,114,32,82,32,105,110,32,32,32,55]),
  (28,[79,112,84,121,112,101,65,114,114,97,121,32,82,32,105,105,32,32,32,55]),
  (30,[79,112,84,121,112,101,83,116,114,117,99,116,32,82,32,32,105,32,32,55]),
  (32,[79,112,84,121,112,101,80,111,105,110,116,101,114,32,82,32,99,105,32,32,32,55]),
  (33,[79,112,84,121,112,101,70,117,110,99,116,105,111,110,32,82,32,105,32,105,32,32,55]),
  (41,[79,112,67,111,110,115,116,97,110,116,84,114,117,101,32,84,82,32,32,32,32,55]),
  (42,[79,112,67,111,110,115,116,97,110,116,70,97,108,115,101,32,84,82,32,32,32,32,55]),
  (43,[79,112,67,111,110,115,116,97,110,116,32,84,82,32,110,32,32,32,55]),
  (44,[79,112,67,111,110,115,116,97,110,116,67,111,109,112,111,115,105,116,101,32,84,82,32,32,105,32,32,55]),
  (46,[79,112,67,111,110,115,116,97,110,116,78,117,108,108,32,84,82,32,32,32,32,55]),
  (54,[79,112,70,117,110,99,116,105,111,110,32,84,82,32,102,105,32,32,32,56]),
  (55,[79,112,70,117,110,99,116,105,111,110,80,97,114,97,109,101,116,101,114,32,84,82,32,32,32,32,56]),
  (56,[79,112,70,117,110,99,116,105,111,110,69,110,100,32,32,32,32,32,56]),
  (57,[79,112,70,117,110,99,116,105,111,110,67,97,108,108,32,84,82,32,105,32,105,32,32,56]),
  (59,[79,112,86,97,114,105,97,98,108,101,32,84,82,32,99,32,105,32,49,32,55]),
  (61,[79,112,76,111,97,100,32,84,82,32,105,32,32,32,56]),
  (62,[79,112,83,116,111,114,101,32,32,105,105,32,32,32,56]),
  (65,[79,112,65,99,99,101,115,115,67,104,97,105,110,32,84,82,32,105,32,105,32,32,56]),
  (71,[79,112,68,101,99,111,114,97,116,101,32,32,105,100,32,110,32,32,54])]
def tabB:List (Int×Bs):=
 [(77,[79,112,86,101,99,116,111,114,69,120,116,114,97,99,116,68,121,110,97,109,105,99,32,84,82,32,105,105,32,32,32,56]),
  (78,[79,112,86,101,99,116,111,114,73,110,115,101,114,116,68,121,110,97,109,105,99,32,84,82,32,105,105,105,32,32,32,56]),
  (79,[79,112,86,101,99,116,111,114,83,104,117,102,102,108,101,32,84,82,32,105,105,32,110,32,32,56]),
  (80,[79,112,67,111,109,112,111,115,105,116,101,67,111,110,115,116,114,117,99,116,32,84,82,32,32,105,32,32,56]),
  (81,[79,112,67,111,109,112,111,115,105,116,101,69,120,116,114,97,99,116,32,84,82,32,105,32,110,32,32,56]),
  (82,[79,112,67,111,109,112,111,115,105,116,101,73,110,115,101,114,116,32,84,82,32,105,105,32,110,32,32,56]),
  (83,[79,112,67,111,112,121,79,98,106,101,99,116,32,84,82,32,105,32,32,32,56]),
  (124,[79,112,66,105,116,99,97,115,116,32,84,82,32,105,32,32,32,56]),
  (126,[79,112,83,78,101,103,97,116,101,32,84,82,32,105,32,32,32,56]),
  (128,[79,112,73,65,100,100,32,84,82,32,105,105,32,32,32,56]),
  (130,[79,112,73,83,117,98,32,84,82,32,105,105,32,32,32,56]),
  (132,[79,112,73,77,117,108,32,84,82,32,105,105,32,32,32,56]),
  (134,[79,112,85,68,105,118,32,84,82,32,105,105,32,32,32,56]),
  (135,[79,112,83,68,105,118,32,84,82,32,105,105,32,32,32,56]),
  (137,[79,112,85,77,111,100,32,84,82,32,105,105,32,32,32,56]),
  (138,[79,112,83,82,101,109,32,84,82,32,105,105,32,32,32,56]),
  (139,[79,112,83,77,111,100,32,84,82,32,105,105,32,32,32,56]),
  (149,[79,112,73,65,100,100,67,97,114,114,121,32,84,82,32,105,105,32,32,32,56]),
  (150,[79,112,73,83,117,98,66,111,114,114,111,119,32,84,82,32,105,105,32,32,32,56]),
  (151,[79,112,85,77,117,108,69,120,116,101,110,100,101,100,32,84,82,32,105,105,32,32,32,56]),
  (152,[79,112,83,77,117,108,69,120,116,101,110,100,101,100,32,84,82,32,105,105,32,32,32,56]),
  (154,[79,112,65,110,121,32,84,82,32,105,32,32,32,56]),
  (155,[79,112,65,108,108,32,84,82,32,105,32,32,32,56]),
  (164,[79,112,76,111,103,105,99,97,108,69,113,117,97,108,32,84,82,32,105,105,32,32,32,56]),
  (165,[79,112,76,111,103,105,99,97,108,78,111,116,69,113,117,97,108,32,84,82,32,105,105,32,32,32,56]),
  (166,[79,112,76,111,103,105,99,97,108,79,114,32,84,82,32,105,105,32,32,32,56]),
  (167,[79,112,76,111,103,105,99,97,108,65,110,100,32,84,82,32,105,105,32,32,32,56]),
  (168,[79,112,76,111,103,105,99,97,108,78,111,116,32,84,82,32,105,32,32,32,56]),
  (169,[79,112,83,101,108,101,99,116,32,84,82,32,105,105,105,32,32,32,56]),
  (170,[79,112,73,69,113,117,97,108,32,84,82,32,105,105,32,32,32,56]),
  (171,[79,112,73,78,111,116,69,113,117,97,108,32,84,82,32,105,105,32,32,32,56])]
def tabC:List (Int×Bs):=
 [(172,[79,112,85,71,114,101,97,116,101,114,84,104,97,110,32,84,82,32,105,105,32,32,32,56]),
  (173,[79,112,83,71,114,101,97,116,101,114,84,104,97,110,32,84,82,32,105,105,32,32,32,56]),
  (174,[79,112,85,71,114,101,97,116,101,114,84,104,97,110,69,113,117,97,108,32,84,82,32,105,105,32,32,32,56]),
  (175,[79,112,83,71,114,101,97,116,101,114,84,104,97,110,69,113,117,97,108,32,84,82,32,105,105,32,32,32,56]),
  (176,[79,112,85,76,101,115,115,84,104,97,110,32,84,82,32,105,105,32,32,32,56]),
  (177,[79,112,83,76,101,115,115,84,104,97,110,32,84,82,32,105,105,32,32,32,56]),
  (178,[79,112,85,76,101,115,115,84,104,97,110,69,113,117,97,108,32,84,82,32,105,105,32,32,32,56]),
  (179,[79,112,83,76,101,115,115,84,104,97,110,69,113,117,97,108,32,84,82,32,105,105,32,32,32,56]),
  (194,[79,112,83,104,105,102,116,82,105,103,104,116,76,111,103,105,99,97,108,32,84,82,32,105,105,32,32,32,56]),
  (195,[79,112,83,104,105,102,116,82,105,103,104,116,65,114,105,116,104,109,101,116,105,99,32,84,82,32,105,105,32,32,32,56]),
  (196,[79,112,83,104,105,102,116,76,101,102,116,76,111,103,105,99,97,108,32,84,82,32,105,105,32,32,32,56]),
  (197,[79,112,66,105,116,119,105,115,101,79,114,32,84,82,32,105,105,32,32,32,56]),
  (198,[79,112,66,105,116,119,105,115,101,88,111,114,32,84,82,32,105,105,32,32,32,56]),
  (199,[79,112,66,105,116,119,105,115,101,65,110,100,32,84,82,32,105,105,32,32,32,56]),
  (200,[79,112,78,111,116,32,84,82,32,105,32,32,32,56]),
  (201,[79,112,66,105,116,70,105,101,108,100,73,110,115,101,114,116,32,84,82,32,105,105,105,105,32,32,32,56]),
  (202,[79,112,66,105,116,70,105,101,108,100,83,69,120,116,114,97,99,116,32,84,82,32,105,105,105,32,32,32,56]),
  (203,[79,112,66,105,116,70,105,101,108,100,85,69,120,116,114,97,99,116,32,84,82,32,105,105,105,32,32,32,56]),
  (204,[79,112,66,105,116,82,101,118,101,114,115,101,32,84,82,32,105,32,32,32,56]),
  (205,[79,112,66,105,116,67,111,117,110,116,32,84,82,32,105,32,32,32,56]),
  (245,[79,112,80,104,105,32,84,82,32,32,105,105,32,32,56]),
  (246,[79,112,76,111,111,112,77,101,114,103,101,32,32,105,105,103,32,32,32,56]),
  (247,[79,112,83,101,108,101,99,116,105,111,110,77,101,114,103,101,32,32,105,104,32,32,32,56]),
  (248,[79,112,76,97,98,101,108,32,82,32,32,32,32,56]),
  (249,[79,112,66,114,97,110,99,104,32,32,105,32,32,32,56]),
  (250,[79,112,66,114,97,110,99,104,67,111,110,100,105,116,105,111,110,97,108,32,32,105,105,105,32,32,32,56]),
  (251,[79,112,83,119,105,116,99,104,32,32,105,105,32,110,105,32,32,56]),
  (252,[79,112,75,105,108,108,32,32,32,32,32,56]),
  (253,[79,112,82,101,116,117,114,110,32,32,32,32,32,56]),
  (254,[79,112,82,101,116,117,114,110,86,97,108,117,101,32,32,105,32,32,32,56]),
  (255,[79,112,85,110,114,101,97,99,104,97,98,108,101,32,32,32,32,32,56])]
def tabN:List (Int×Bs):=
 [(107,[48,32,77,97,116,114,105,120,32,49,32,83,104,97,100,101,114,32]),
  (97,[48,32,76,111,103,105,99,97,108,32]),
  (109,[48,32,83,105,109,112,108,101,32,49,32,71,76,83,76,52,53,48,32]),
  (101,[48,32,86,101,114,116,101,120,32,52,32,70,114,97,103,109,101,110,116,32]),
  (120,[55,32,79,114,105,103,105,110,85,112,112,101,114,76,101,102,116,32]),
  (108,[48,32,85,110,107,110,111,119,110,32,49,32,69,83,83,76,32,50,32,71,76,83,76,32]),
  (99,[49,32,73,110,112,117,116,32,51,32,79,117,116,112,117,116,32,54,32,80,114,105,118,97,116,101,32,55,32,70,117,110,99,116,105,111,110,32]),
  (100,[48,32,82,101,108,97,120,101,100,80,114,101,99,105,115,105,111,110,32,49,49,32,66,117,105,108,116,73,110,32,49,52,32,70,108,97,116,32,51,48,32,76,111,99,97,116,105,111,110,32]),
  (102,[48,32,78,111,110,101,32,49,32,73,110,108,105,110,101,32,50,32,68,111,110,116,73,110,108,105,110,101,32,52,32,80,117,114,101,32,56,32,67,111,110,115,116,32]),
  (104,[48,32,78,111,110,101,32,49,32,70,108,97,116,116,101,110,32,50,32,68,111,110,116,70,108,97,116,116,101,110,32]),
  (103,[48,32,78,111,110,101,32,49,32,85,110,114,111,108,108,32,50,32,68,111,110,116,85,110,114,111,108,108,32])]
def tabR:List (Int×Fl):=
 [(1,[79,112,85,110,100,101,102],true,true,[],[],0,7),
  (3,[79,112,83,111,117,114,99,101],false,false,[108,110],[],0,4),
  (5,[79,112,78,97,109,101],false,false,[105,115],[],0,5),
  (6,[79,112,77,101,109,98,101,114,78,97,109,101],false,false,[105,110,115],[],0,5),
  (7,[79,112,83,116,114,105,110,103],false,true,[115],[],0,4),
  (14,[79,112,77,101,109,111,114,121,77,111,100,101,108],false,false,[97,109],[],0,1),
  (15,[79,112,69,110,116,114,121,80,111,105,110,116],false,false,[101,105,115],[105],0,2),
  (16,[79,112,69,120,101,99,117,116,105,111,110,77,111,100,101],false,false,[105,120],[],0,3),
  (17,[79,112,67,97,112,97,98,105,108,105,116,121],false,false,[107],[],0,0),
  (19,[79,112,84,121,112,101,86,111,105,100],false,true,[],[],0,7),
  (20,[79,112,84,121,112,101,66,111,111,108],false,true,[],[],0,7),
  (21,[79,112,84,121,112,101,73,110,116],false,true,[110,110],[],0,7),
  (23,[79,112,84,121,112,101,86,101,99,116,111,114],false,true,[105,110],[],0,7),
  (28,[79,112,84,121,112,101,65,114,114,97,121],false,true,[105,105],[],0,7),
  (30,[79,112,84,121,112,101,83,116,114,117,99,116],false,true,[],[105],0,7),
  (32,[79,112,84,121,112,101,80,111,105,110,116,101,114],false,true,[99,105],[],0,7),
  (33,[79,112,84,121,112,101,70,117,110,99,116,105,111,110],false,true,[105],[105],0,7),
  (41,[79,112,67,111,110,115,116,97,110,116,84,114,117,101],true,true,[],[],0,7),
  (42,[79,112,67,111,110,115,116,97,110,116,70,97,108,115,101],true,true,[],[],0,7),
  (43,[79,112,67,111,110,115,116,97,110,116],true,true,[110],[],0,7),
  (44,[79,112,67,111,110,115,116,97,110,116,67,111,109,112,111,115,105,116,101],true,true,[],[105],0,7),
  (46,[79,112,67,111,110,115,116,97,110,116,78,117,108,108],true,true,[],[],0,7),
  (54,[79,112,70,117,110,99,116,105,111,110],true,true,[102,105],[],0,8),
  (55,[79,112,70,117,110,99,116,105,111,110,80,97,114,97,109,101,116,101,114],true,true,[],[],0,8),
  (56,[79,112,70,117,110,99,116,105,111,110,69,110,100],false,false,[],[],0,8),
  (57,[79,112,70,117,110,99,116,105,111,110,67,97,108,108],true,true,[105],[105],0,8),
  (59,[79,112,86,97,114,105,97,98,108,101],true,true,[99],[105],1,7),
  (61,[79,112,76,111,97,100],true,true,[105],[],0,8),
  (62,[79,112,83,116,111,114,101],false,false,[105,105],[],0,8),
  (65,[79,112,65,99,99,101,115,115,67,104,97,105,110],true,true,[105],[105],0,8),
  (71,[79,112,68,101,99,111,114,97,116,101],false,false,[105,100],[110],0,6),
  (77,[79,112,86,101,99,116,111,114,69,120,116,114,97,99,116,68,121,110,97,109,105,99],true,true,[105,105],[],0,8),
  (78,[79,112,86,101,99,116,111,114,73,110,115,101,114,116,68,121,110,97,109,105,99],true,true,[105,105,105],[],0,8),
  (79,[79,112,86,101,99,116,111,114,83,104,117,102,102,108,101],true,true,[105,105],[110],0,8),
  (80,[79,112,67,111,109,112,111,115,105,116,101,67,111,110,115,116,114,117,99,116],true,true,[],[105],0,8),
  (81,[79,112,67,111,109,112,111,115,105,116,101,69,120,116,114,97,99,116],true,true,[105],[110],0,8),
  (82,[79,112,67,111,109,112,111,115,105,116,101,73,110,115,101,114,116],true,true,[105,105],[110],0,8),
  (83,[79,112,67,111,112,121,79,98,106,101,99,116],true,true,[105],[],0,8),
  (124,[79,112,66,105,116,99,97,115,116],true,true,[105],[],0,8),
  (126,[79,112,83,78,101,103,97,116,101],true,true,[105],[],0,8),
  (128,[79,112,73,65,100,100],true,true,[105,105],[],0,8),
  (130,[79,112,73,83,117,98],true,true,[105,105],[],0,8),
  (132,[79,112,73,77,117,108],true,true,[105,105],[],0,8),
  (134,[79,112,85,68,105,118],true,true,[105,105],[],0,8),
  (135,[79,112,83,68,105,118],true,true,[105,105],[],0,8),
  (137,[79,112,85,77,111,100],true,true,[105,105],[],0,8),
  (138,[79,112,83,82,101,109],true,true,[105,105],[],0,8),
  (139,[79,112,83,77,111,100],true,true,[105,105],[],0,8),
  (149,[79,112,73,65,100,100,67,97,114,114,121],true,true,[105,105],[],0,8),
  (150,[79,112,73,83,117,98,66,111,114,114,111,119],true,true,[105,105],[],0,8),
  (151,[79,112,85,77,117,108,69,120,116,101,110,100,101,100],true,true,[105,105],[],0,8),
  (152,[79,112,83,77,117,108,69,120,116,101,110,100,101,100],true,true,[105,105],[],0,8),
  (154,[79,112,65,110,121],true,true,[105],[],0,8),
  (155,[79,112,65,108,108],true,true,[105],[],0,8),
  (164,[79,112,76,111,103,105,99,97,108,69,113,117,97,108],true,true,[105,105],[],0,8),
  (165,[79,112,76,111,103,105,99,97,108,78,111,116,69,113,117,97,108],true,true,[105,105],[],0,8),
  (166,[79,112,76,111,103,105,99,97,108,79,114],true,true,[105,105],[],0,8),
  (167,[79,112,76,111,103,105,99,97,108,65,110,100],true,true,[105,105],[],0,8),
  (168,[79,112,76,111,103,105,99,97,108,78,111,116],true,true,[105],[],0,8),
  (169,[79,112,83,101,108,101,99,116],true,true,[105,105,105],[],0,8),
  (170,[79,112,73,69,113,117,97,108],true,true,[105,105],[],0,8),
  (171,[79,112,73,78,111,116,69,113,117,97,108],true,true,[105,105],[],0,8),
  (172,[79,112,85,71,114,101,97,116,101,114,84,104,97,110],true,true,[105,105],[],0,8),
  (173,[79,112,83,71,114,101,97,116,101,114,84,104,97,110],true,true,[105,105],[],0,8),
  (174,[79,112,85,71,114,101,97,116,101,114,84,104,97,110,69,113,117,97,108],true,true,[105,105],[],0,8),
  (175,[79,112,83,71,114,101,97,116,101,114,84,104,97,110,69,113,117,97,108],true,true,[105,105],[],0,8),
  (176,[79,112,85,76,101,115,115,84,104,97,110],true,true,[105,105],[],0,8),
  (177,[79,112,83,76,101,115,115,84,104,97,110],true,true,[105,105],[],0,8),
  (178,[79,112,85,76,101,115,115,84,104,97,110,69,113,117,97,108],true,true,[105,105],[],0,8),
  (179,[79,112,83,76,101,115,115,84,104,97,110,69,113,117,97,108],true,true,[105,105],[],0,8),
  (194,[79,112,83,104,105,102,116,82,105,103,104,116,76,111,103,105,99,97,108],true,true,[105,105],[],0,8),
  (195,[79,112,83,104,105,102,116,82,105,103,104,116,65,114,105,116,104,109,101,116,105,99],true,true,[105,105],[],0,8),
  (196,[79,112,83,104,105,102,116,76,101,102,116,76,111,103,105,99,97,108],true,true,[105,105],[],0,8),
  (197,[79,112,66,105,116,119,105,115,101,79,114],true,true,[105,105],[],0,8),
  (198,[79,112,66,105,116,119,105,115,101,88,111,114],true,true,[105,105],[],0,8),
  (199,[79,112,66,105,116,119,105,115,101,65,110,100],true,true,[105,105],[],0,8),
  (200,[79,112,78,111,116],true,true,[105],[],0,8),
  (201,[79,112,66,105,116,70,105,101,108,100,73,110,115,101,114,116],true,true,[105,105,105,105],[],0,8),
  (202,[79,112,66,105,116,70,105,101,108,100,83,69,120,116,114,97,99,116],true,true,[105,105,105],[],0,8),
  (203,[79,112,66,105,116,70,105,101,108,100,85,69,120,116,114,97,99,116],true,true,[105,105,105],[],0,8),
  (204,[79,112,66,105,116,82,101,118,101,114,115,101],true,true,[105],[],0,8),
  (205,[79,112,66,105,116,67,111,117,110,116],true,true,[105],[],0,8),
  (245,[79,112,80,104,105],true,true,[],[105,105],0,8),
  (246,[79,112,76,111,111,112,77,101,114,103,101],false,false,[105,105,103],[],0,8),
  (247,[79,112,83,101,108,101,99,116,105,111,110,77,101,114,103,101],false,false,[105,104],[],0,8),
  (248,[79,112,76,97,98,101,108],false,true,[],[],0,8),
  (249,[79,112,66,114,97,110,99,104],false,false,[105],[],0,8),
  (250,[79,112,66,114,97,110,99,104,67,111,110,100,105,116,105,111,110,97,108],false,false,[105,105,105],[],0,8),
  (251,[79,112,83,119,105,116,99,104],false,false,[105,105],[110,105],0,8),
  (252,[79,112,75,105,108,108],false,false,[],[],0,8),
  (253,[79,112,82,101,116,117,114,110],false,false,[],[],0,8),
  (254,[79,112,82,101,116,117,114,110,86,97,108,117,101],false,false,[105],[],0,8),
  (255,[79,112,85,110,114,101,97,99,104,97,98,108,101],false,false,[],[],0,8)]
def tabM:List (Int×Int×Bs):=
 [(107,0,[77,97,116,114,105,120]),
  (107,1,[83,104,97,100,101,114]),
  (97,0,[76,111,103,105,99,97,108]),
  (109,0,[83,105,109,112,108,101]),
  (109,1,[71,76,83,76,52,53,48]),
  (101,0,[86,101,114,116,101,120]),
  (101,4,[70,114,97,103,109,101,110,116]),
  (120,7,[79,114,105,103,105,110,85,112,112,101,114,76,101,102,116]),
  (108,0,[85,110,107,110,111,119,110]),
  (108,1,[69,83,83,76]),
  (108,2,[71,76,83,76]),
  (99,1,[73,110,112,117,116]),
  (99,3,[79,117,116,112,117,116]),
  (99,6,[80,114,105,118,97,116,101]),
  (99,7,[70,117,110,99,116,105,111,110]),
  (100,0,[82,101,108,97,120,101,100,80,114,101,99,105,115,105,111,110]),
  (100,11,[66,117,105,108,116,73,110]),
  (100,14,[70,108,97,116]),
  (100,30,[76,111,99,97,116,105,111,110]),
  (102,0,[78,111,110,101]),
  (102,1,[73,110,108,105,110,101]),
  (102,2,[68,111,110,116,73,110,108,105,110,101]),
  (102,4,[80,117,114,101]),
  (102,8,[67,111,110,115,116]),
  (104,0,[78,111,110,101]),
  (104,1,[70,108,97,116,116,101,110]),
  (104,2,[68,111,110,116,70,108,97,116,116,101,110]),
  (103,0,[78,111,110,101]),
  (103,1,[85,110,114,111,108,108]),
  (103,2,[68,111,110,116,85,110,114,111,108,108])]
def fldS(st:Nat×List Bs)(c:UInt8):Nat×List Bs:=if c=32 then(st.1+1,st.2) else(st.1,st.2.modify st.1 (·++[c]))
def fldG(s:Bs):Nat×List Bs:=s.foldl fldS (0,[[],[],[],[],[],[]])
def fld(s:Bs)(k:Nat):Bs:=(fldG s).2.getD k []
def zh9(s:Bs):Fl:=
 (fld s 0,(fld s 1).contains 84,(fld s 1).contains 82,fld s 2,fld s 3,(match fld s 4 with | []=>0 |c::_=>c.toNat-48),(match fld s 5 with | []=>0 |c::_=>c.toNat-48))
def zlu(s:Bs):Bool:=
 s.all (·<128)&&(fld s 1).all (·<128)&&decide (s.count 32<=5)&&decide (s.length<=100)&&!s.isEmpty&&(match fld s 5 with | []=>false |c::_=>decide (48<=c.toNat)) &&
  (match fld s 4 with | []=>true |c::_=>decide (48<=c.toNat))
def zhq:List (Int×Bs):=tabA++(tabB++tabC)
theorem zqo:zhq.all (λp=>zlu p.2)=true:=by decide +kernel
theorem znN:(zhq.map λp=>(p.1,zh9 p.2))=tabR:=by kernel_rfl
theorem keyA:tabA.all (λp=>decide (p.1<=71))=true:=by decide +kernel
theorem keyB:tabB.all (λp=>decide (71<p.1)&&decide (p.1<=171))=true:=by decide +kernel
theorem keyC:tabC.all (λp=>decide (171<p.1))=true:=by decide +kernel
def rowP(op:Int):Option Bs:=look zhq op
theorem zqR{op:Int}(h:op<=71):look tabA op=rowP op:=by
 unfold rowP zhq
 rw[Z0,Z0,YK (a:=tabB),YK (a:=tabC),Option.or_none,Option.or_none]
 ·intro p hp;have:=List.all_eq_true.1 keyC p hp;simp at this;omega
 ·intro p hp;have:=List.all_eq_true.1 keyB p hp;simp at this;omega
theorem zqS{op:Int}(h:¬op<=71)(h':op<=171):look tabB op=rowP op:=by
 unfold rowP zhq
 rw[Z0,Z0,YK (a:=tabA),YK (a:=tabC),Option.or_none,Option.none_or]
 ·intro p hp;have:=List.all_eq_true.1 keyC p hp;simp at this;omega
 ·intro p hp;have:=List.all_eq_true.1 keyA p hp;simp at this;omega
theorem zqT{op:Int}(h:¬op<=71)(h':¬op<=171):look tabC op=rowP op:=by
 unfold rowP zhq
 rw[Z0,Z0,YK (a:=tabA),YK (a:=tabB),Option.none_or,Option.none_or]
 ·intro p hp;have:=List.all_eq_true.1 keyB p hp;simp at this;omega
 ·intro p hp;have:=List.all_eq_true.1 keyA p hp;simp at this;omega
theorem zqn{op:Int}{s:Bs}(h:rowP op=some s):zlu s=true:=List.all_eq_true.1 zqo _ (ZI h)
def frm(op:Int):Option Fl:=look tabR op
theorem zqb(op:Int):frm op=(rowP op).map zh9:=by
 unfold frm rowP
 rw[<-zlh,znN]
theorem zkW(s:Bs):(fldG s).2.length=6:=by
 suffices h:∀(l:Bs) (st:Nat×List Bs),(l.foldl fldS st).2.length=st.2.length from h s _
 intro l
 induction l with
 |nil=>intro st;rfl
 |cons c l ih=>
  intro st
  rw[List.foldl_cons,ih]
  unfold fldS
  split<;>simp
theorem zpW(s:Bs):(fldG s).1=s.count 32:=by
 suffices h:∀(l:Bs) (st:Nat×List Bs),(l.foldl fldS st).1=st.1+l.count 32 from(h s _).trans (Nat.zero_add _)
 intro l
 induction l with
 |nil=>intro st;simp
 |cons c l ih=>
  intro st
  rw[List.foldl_cons,ih]
  unfold fldS
  split
  ·rename_i e;subst e;simp;omega
  ·rename_i e;rw[List.count_cons_of_ne e]
theorem znr(s:Bs):∀x∈(fldG s).2,x.length<=s.length:=by
 suffices h:∀(l:Bs) (st:Nat×List Bs) (n:Nat),(∀x∈st.2,x.length<=n)->∀x∈(l.foldl fldS st).2,x.length<=n+l.length by
  intro x hx
  have:=h s (0,[[],[],[],[],[],[]]) 0 (by simp) x hx
  omega
 intro l
 induction l with
 |nil=>intro st n h x hx;exact h x hx
 |cons c l ih=>
  intro st n h x hx
  have:=ih (fldS st c) (n+1) (λy hy=>by
   unfold fldS at hy
   split at hy
   ·have:=h y hy;omega
   ·obtain⟨i,hi,e⟩:=List.mem_iff_getElem.1 hy
    rw[List.getElem_modify]at e
    rw[List.length_modify]at hi
    split at e
    ·rw[<-e]
     have:=h _ (List.getElem_mem hi)
     simp
     omega
    ·rw[<-e]
     have:=h _ (List.getElem_mem hi)
     omega) x hx
  simp only[List.length_cons]
  omega
theorem ze2(s:Bs)(c:UInt8):fldG (s++[c])=fldS (fldG s) c:=by simp[fldG,List.foldl_append]
abbrev Fl.fixed(f:Fl):Bs:=f.2.2.2.1
abbrev Fl.rest(f:Fl):Bs:=f.2.2.2.2.1
abbrev Fl.most(f:Fl):Nat:=f.2.2.2.2.2.1
def zc7(f:Fl):Bool:=f.fixed.all (λc=>c !=0)&&f.rest.all (λc=>c !=0)&&decide (f.fixed.length<=100)&&decide (f.rest.length<=100)&&decide (f.most<=100)
theorem zmp:tabR.all (λp=>zc7 p.2)=true:=by decide +kernel
def letP(f:Fl)(k:Nat):Nat:=
 if k<f.fixed.length then(f.fixed.getD k 0).toNat
 else if f.rest.length=0 then 0
 else if 0<f.most/\f.most*f.rest.length<=k-f.fixed.length then 0
 else(f.rest.getD ((k-f.fixed.length) % f.rest.length) 0).toNat
def zah(c:Int):Int:=
 if c=105 then 1 else if c=110 then 2 else if c=115 then 3 else if (look tabN c).isSome then 4 else 0
theorem zpg:tabN.all (λp=>!p.2.isEmpty)=true:=by decide +kernel
theorem zlp:tabM.all (λp=>(look tabN p.1).isSome)=true:=by decide +kernel
theorem zoC:tabR.all (λp=>p.2.fixed.all (λc=>decide (zah c.toNat≠0))&&p.2.rest.all (λc=>decide (zah c.toNat≠0)))=true:=by decide +kernel
theorem zkX{op:Int}{f:Fl}(h:frm op=some f):zc7 f=true:=List.all_eq_true.1 zmp _ (ZI h)
theorem zn4{op:Int}{f:Fl}(h:frm op=some f){k:Nat}(hk:letP f k≠0):zah (letP f k)≠0:=by
 have h2:=List.all_eq_true.1 zoC _ (ZI h)
 rw[Bool.and_eq_true]at h2
 have h3:=List.all_eq_true.1 h2.1
 have h4:=List.all_eq_true.1 h2.2
 unfold letP at hk⊢
 split
 ·rename_i hlt
  rw[zt hlt]
  exact of_decide_eq_true (h3 _ (List.getElem_mem hlt))
 ·rename_i hlt
  rw[if_neg hlt]at hk
  split
  ·rename_i e;rw[if_pos e]at hk;exact absurd rfl hk
  ·rename_i e
   rw[if_neg e]at hk
   split
   ·rename_i e2;rw[if_pos e2]at hk;exact absurd rfl hk
   ·have:(k-f.fixed.length) % f.rest.length<f.rest.length:=Nat.mod_lt _ (by omega)
    rw[zt this]
    exact of_decide_eq_true (h4 _ (List.getElem_mem this))
def bad(f:Fl)(ks:List Int)(k:Nat):Bool:=ks.getD k 0==0||zah (letP f k) !=ks.getD k 0
def zby(f:Fl)(n:Nat):Bool:=decide (n<f.fixed.length)||(decide (f.rest.length≠0)&&decide ((n-f.fixed.length) % f.rest.length≠0))
def fitF(f:Fl)(ks:List Int):Nat×Bool:=match (List.range ks.length).find? (bad f ks) with
 |some k=>(k,false)
 |none=>if zby f ks.length then(ks.length,false) else(0,true)
def fitP(op:Int)(ks:List Int):Nat×Bool:=match frm op with
 |none=>(0,false)
 |some f=>fitF f ks
theorem znp{op:Int}{ks:List Int}(h:frm op=none):fitP op ks=(0,false):=by unfold fitP;rw[h]
theorem zjy{op:Int}{ks:List Int}{f:Fl}(h:frm op=some f):fitP op ks=fitF f ks:=by unfold fitP;rw[h]
theorem zbk{p:Nat->Bool}{n k:Nat}(hk:k<n)(hp:p k=true)(h:∀j,j<k->p j=false):(List.range n).find? p=some k:=by
 rw[List.find?_range_eq_some]
 exact⟨hp,by simpa using hk,λj hj=>by simp[h j hj]⟩
theorem zmP{f:Fl}{ks:List Int}{k:Nat}(hk:k<ks.length)(hp:bad f ks k=true)(h:∀j,j<k->bad f ks j=false):fitF f ks=(k,false):=by
 unfold fitF
 rw[zbk hk hp h]
theorem zkV{f:Fl}{ks:List Int}(h:∀j,j<ks.length->bad f ks j=false):fitF f ks=if zby f ks.length then(ks.length,false) else(0,true):=by
 unfold fitF
 have:(List.range ks.length).find? (bad f ks)=none:=by
  rw[List.find?_eq_none]
  intro j hj
  rw[h j (List.mem_range.1 hj)]
  simp
 rw[this]
end Go.Gm
namespace Go.Proofs
open Go.Gk Go.RowKit Go.Gm
theorem zaE{s:Bs}{k:Nat}(hk:k<s.length)(h:s[k]<128):Utf8.decode (bs s) k=(s[k].toNat,1):=by
 have e:((bs s).get! (k+0)).toNat=s[k].toNat:=by
  have:(bs s).get! (k+0)=s[k]:=by
   show(s.toArray)[k+0]! =s[k]
   simp[hk]
  rw[this]
 have h':s[k].toNat<128:=h
 unfold Utf8.decode
 simp only[e]
 rw[if_pos h']
theorem zcK{c:UInt8}(h:c<128):Utf8.encode (c.toNat:Int)=bs [c]:=by
 have h':c.toNat<128:=h
 have hv:Utf8.valid (c.toNat:Int)=true:=by
  unfold Utf8.valid
  have:(decide (0<=(c.toNat:Int))&&decide ((c.toNat:Int)<0xD800))=true:=by simp;omega
  rw[this];rfl
 unfold Utf8.encode
 simp only[hv,if_true,Int.toNat_natCast]
 rw[if_pos (by omega)]
 show _=bs [c]
 unfold bs
 simp
theorem zaF{w:World}{r:Nat}{s:ByteArray}{p:Nat}(h:r<w.heap.size):(Y4 w r s p).heap[r]? =some (.stringIter s p):=by
 simp[Y4,h]
theorem zms{α β:Type}(f:α->β)(g:α->α)(l:List α){i:Nat}(h:i<l.length):(l.map f).set i (f (g l[i]))=(l.modify i g).map f:=by
 apply List.ext_getElem
 ·simp
 ·intro j h1 h2
  simp only[List.getElem_set,List.getElem_map,List.getElem_modify]
  split
  ·rename_i e;subst e;rfl
  ·rfl
abbrev six(l:List Bs):List Value:=l.map λx=>.string (bs x)
theorem zlv{s:Bs}(h:zlu s=true):(∀c∈s,c<128)/\(∀c∈fld s 1,c<128)/\s.count 32<=5/\s.length<=100/\s≠[]/\(∃c r,fld s 5=c::r/\48<=c.toNat)/\(∀c r,fld s 4=c::r->48<=c.toNat):=by
 unfold zlu at h
 simp only[Bool.and_eq_true,decide_eq_true_eq,List.all_eq_true,Bool.not_eq_true',List.isEmpty_eq_false_iff]at h
 obtain⟨⟨⟨⟨⟨⟨h1,h1'⟩,h2⟩,h3⟩,h4⟩,h5⟩,h6⟩:=h
 refine⟨h1,h1',h2,h3,h4,?_,?_⟩
 ·cases e:fld s 5 with
  |nil=>rw[e]at h5;cases h5
  |cons c r=>rw[e]at h5;exact⟨c,r,rfl,of_decide_eq_true h5⟩
 ·intro c r e
  rw[e]at h6
  exact of_decide_eq_true h6
theorem zkU{s:Bs}(hs:zlu s=true){w:World}{R:VWP}
  (hR:∀w',Below w.heap.size w w'->R (.agg #[.string (bs (fld s 0)),.string (bs (fld s 1)),.string (bs (fld s 2)),.string (bs (fld s 3)),.string (bs (fld s 4)),.string (bs (fld s 5))]) w') :
  cR 143 #[.string (bs s)] w R:=by
 obtain⟨h128,-,h5,hlen,-⟩:=zlv hs
 refine zc.of (zeb (bs s) R w ?_) λ_ _ h=>h
 refine Nw.gen λw1 e1=>Nw.gen λw2 e2=>Nw.gen λw3 e3=>?_
 have hA1:Blk w1 w.heap.size 220 (six [[],[],[],[],[],[]]):=by rw[e1];exact Blk.new w _ _
 have z1:w1.heap.size=w.heap.size+1:=by rw[e1];simp
 have b1:Below w.heap.size w w1:=by rw[e1];exact(Below.refl _ _).alloc (Nat.le_refl _) _
 have hA2:Blk w2 w.heap.size 220 (six [[],[],[],[],[],[]]):=by rw[e2];exact hA1.alloc _
 have hB2:Blk w2 w1.heap.size 220 (six [[],[],[],[],[],[]]):=by rw[e2];exact Blk.new w1 _ _
 have z2:w2.heap.size=w.heap.size+2:=by rw[e2];simp[z1]
 have b2:Below w.heap.size w w2:=by rw[e2];exact b1.alloc (by omega) _
 have hA3:Blk w3 w.heap.size 220 (six [[],[],[],[],[],[]]):=by rw[e3];exact hA2.alloc _
 have hB3:Blk w3 w1.heap.size 220 (six [[],[],[],[],[],[]]):=by rw[e3];exact hB2.alloc _
 have hI3:w3.heap[w2.heap.size]? =some (.stringIter (bs s) 0):=by
  rw[e3]
  show(w2.heap.push _)[w2.heap.size]? =_
  simp
 have z3:w3.heap.size=w.heap.size+3:=by rw[e3];simp[z2]
 have b3:Below w.heap.size w w3:=by rw[e3];exact b2.alloc (by omega) _
 clear e1 e2 e3 hA1 hA2 hB2
 refine zj.ghost (λj st w'=>∃k,k<=s.length/\j=s.length-k/\st=(((fldG (s.take k)).1:Int),())/\w'.heap.size=w.heap.size+3/\Below w.heap.size w w'/\w'.heap[w2.heap.size]? =some (.stringIter (bs s) k)/\
  Blk w' w.heap.size 220 (six [[],[],[],[],[],[]])/\Blk w' w1.heap.size 220 (six (fldG (s.take k)).2)) s.length ⟨0,Nat.zero_le _,rfl,rfl,z3,b3,hI3,hA3,hB3⟩ ?_
 rintro _ _ w4 ⟨k,hk,rfl,rfl,hz,hb,hI,hA,hB⟩ next hnext
 have hat:(fldG (s.take k)).1<=5:=by
  rw[zpW]
  exact Nat.le_trans ((List.take_sublist k s).count_le _) h5
 refine⟨bs s,k,hI,λhlt=>?_,λhge=>?_⟩
 ·rw[yl]at hlt
  have hc128:=h128 _ (List.getElem_mem hlt)
  rw[zaE hlt hc128]
  dsimp only
  have hc:=Chg.iter w2.heap.size w4 (bs s) (k+1)
  have hI5:=zaF (w:=w4) (s:=bs s) (p:=k+1) (r:=w2.heap.size) (by omega)
  generalize Y4 w4 w2.heap.size (bs s) (k+1)=w5 at hc hI5
  have hA5:=hc.blk hA (by omega)
  have hB5:=hc.blk hB (by omega)
  have hb5:=hc.below hb (by omega)
  have hz5:=hc.size.trans hz
  have htk:s.take (k+1)=s.take k++[s[k]]:=List.take_succ_eq_append_getElem hlt
  refine zm (λe=>?_) (λe=>?_)
  ·have e:s[k]=32:=by
    apply UInt8.toNat.inj
    have:(s[k].toNat:Int)=32:=e
    show s[k].toNat=32
    omega
   rw[zr (by omega)]
   refine hnext (s.length-(k+1)) _ _ (by omega) ⟨k+1,hlt,rfl,?_,hz5,hb5,hI5,hA5,?_⟩
   ·rw[htk,ze2,fldS,if_pos e]
   ·rw[htk,ze2,fldS,if_pos e];exact hB5
  ·have e:s[k]≠32:=by
    intro h
    apply e
    rw[h]
    rfl
   have h6:=zkW (s.take k)
   have hlt6:(fldG (s.take k)).1<(fldG (s.take k)).2.length:=by omega
   refine⟨⟨by omega,by omega⟩,?_⟩
   rw[Int.toNat_natCast]
   refine hB5.rT (x:=bs (fldG (s.take k)).2[(fldG (s.take k)).1]) (by simp[six,hlt6]) ⟨?_,⟨by omega,by omega⟩,hB5.wr (by simpa[six] using hlt6),?_⟩
   ·rw[zcK hc128]
    unfold zeD
    rw[yl,yl]
    have:=znr (s.take k) _ (List.getElem_mem hlt6)
    rw[List.length_take]at this
    simp only[List.length_singleton]
    omega
   ·rw[zcK hc128,zjr]
    refine hnext (s.length-(k+1)) _ _ (by omega) ⟨k+1,hlt,rfl,?_,?_,?_,?_,?_,?_⟩
    ·rw[htk,ze2,fldS,if_neg e]
    ·simpa[World.setCell] using hz5
    ·exact(Chg.set _ _ _ _).below hb5 (by omega)
    ·rw[(Chg.set _ _ _ _).block _ (by omega)];exact hI5
    ·exact(Chg.set _ _ _ _).blk hA5 (by omega)
    ·have:=hB5.set (fldG (s.take k)).1 (.string (bs ((fldG (s.take k)).2[(fldG (s.take k)).1]++[s[k]])))
     rw[htk,ze2,fldS,if_neg e]
     have e3:=zms (λx=>Value.string (bs x)) (·++[s[k]]) (fldG (s.take k)).2 hlt6
     show Blk _ _ _ (((fldG (s.take k)).2.modify (fldG (s.take k)).1 (·++[s[k]])).map λx=>Value.string (bs x))
     rw[<-e3]
     exact this
 ·rw[yl]at hge
  have:k=s.length:=by omega
  subst this
  rw[List.take_length]at hB
  have hR':∀w',Below w.heap.size w w'->R (.agg #[.string (bs ((fldG s).2.getD 0 [])),.string (bs ((fldG s).2.getD 1 [])),.string (bs ((fldG s).2.getD 2 [])),.string (bs ((fldG s).2.getD 3 [])),.string (bs ((fldG s).2.getD 4 [])),.string (bs ((fldG s).2.getD 5 []))]) w':=hR
  have h6:=zkW s
  generalize (fldG s).2=l at hB h6 hR'
  match l,h6 with
  | [a0,a1,a2,a3,a4,a5],_=>
   refine hB.rT (n:=0) rfl (hB.rT (n:=1) rfl (hB.rT (n:=2) rfl (hB.rT (n:=3) rfl (hB.rT (n:=4) rfl (hB.rT (n:=5) rfl ?_)))))
   refine YQ (vs:=six [a0,a1,a2,a3,a4,a5]) hA rfl λw' h1 h2=>?_
   refine h1.rT (n:=0) rfl (h1.rT (n:=1) rfl (h1.rT (n:=2) rfl (h1.rT (n:=3) rfl (h1.rT (n:=4) rfl (h1.rT (n:=5) rfl ?_)))))
   exact hR' w' (h2.below hb (Nat.le_refl _))
abbrev rowT(op:Int):Bs:=(rowP op).getD []
theorem zpV(op:Int)(R:VWP)(w:World):zao op R w=zjt tabA op (λs=>R (.string (bs s)) w) (R (.string (bs [])) w):=by kernel_rfl
theorem zp1(op:Int)(R:VWP)(w:World):YG op R w=zjt tabB op (λs=>R (.string (bs s)) w) (R (.string (bs [])) w):=by kernel_rfl
theorem zqs(op:Int)(R:VWP)(w:World):zaq op R w=zjt tabC op (λs=>R (.string (bs s)) w) (R (.string (bs [])) w):=by kernel_rfl
theorem zpy{op:Int}{w:World}{R:VWP}(hR:R (.string (bs (rowT op))) w):cR 142 #[.int .u16 op] w R:=by
 refine zc.of (zgq op R w ?_) λ_ _ h=>h
 unfold rowT at hR
 refine zg (λh=>?_) (λh=>zg (λh'=>?_) (λh'=>?_))
 ·rw[<-zqR h]at hR
  refine zc.of (zeM op _ w ?_) λ_ _ h=>h
  rw[zpV]
  exact zcy (λx hx=>⟨_,rfl,by rw[hx]at hR;exact hR⟩) (λhx=>⟨_,rfl,by rw[hx]at hR;exact hR⟩)
 ·rw[<-zqS h h']at hR
  refine zc.of (zed op _ w ?_) λ_ _ h=>h
  rw[zp1]
  exact zcy (λx hx=>⟨_,rfl,by rw[hx]at hR;exact hR⟩) (λhx=>⟨_,rfl,by rw[hx]at hR;exact hR⟩)
 ·rw[<-zqT h h']at hR
  refine zc.of (zeN op _ w ?_) λ_ _ h=>h
  rw[zqs]
  exact zcy (λx hx=>⟨_,rfl,by rw[hx]at hR;exact hR⟩) (λhx=>⟨_,rfl,by rw[hx]at hR;exact hR⟩)
abbrev Fm:=Int×ByteArray×Bool×Bool×ByteArray×ByteArray×Int×Int×Unit
abbrev fmV(f:Fm):List Value:=[.int .u16 f.1,.string f.2.1,.bool f.2.2.1,.bool f.2.2.2.1,.string f.2.2.2.2.1,.string f.2.2.2.2.2.1,.int .i64 f.2.2.2.2.2.2.1,.int .u8 f.2.2.2.2.2.2.2.1]
abbrev fmA(f:Fm):Value:=.agg #[.int .u16 f.1,.string f.2.1,.bool f.2.2.1,.bool f.2.2.2.1,.string f.2.2.2.2.1,.string f.2.2.2.2.2.1,.int .i64 f.2.2.2.2.2.2.1,.int .u8 f.2.2.2.2.2.2.2.1]
def fmO(op:Int):Option Fl->Fm
 |none=>(0,bs [],false,false,bs [],bs [],0,0,())
 |some f=>(op,bs f.1,f.2.1,f.2.2.1,bs f.fixed,bs f.rest,(f.most:Int),(f.2.2.2.2.2.2:Int),())
theorem Fm.load{w:World}{b:Nat}{T:TypeId}{f:Fm}(h:Blk w b T (fmV f)){φ:Int->ByteArray->Bool->Bool->ByteArray->ByteArray->Int->Int->Prop}
  (hφ:φ f.1 f.2.1 f.2.2.1 f.2.2.2.1 f.2.2.2.2.1 f.2.2.2.2.2.1 f.2.2.2.2.2.2.1 f.2.2.2.2.2.2.2.1) :
  ldI w ((blk b).add 0) .u16 λx1=>zx w ((blk b).add 1) λx2=>ldB w ((blk b).add 2) λx3=>ldB w ((blk b).add 3) λx4=>zx w ((blk b).add 4) λx5=>zx w ((blk b).add 5) λx6=>
   ldI w ((blk b).add 6) .i64 λx7=>ldI w ((blk b).add 7) .u8 λx8=>φ x1 x2 x3 x4 x5 x6 x7 x8:=
 h.rI (n:=0) rfl (h.rT (n:=1) rfl (h.rB (n:=2) rfl (h.rB (n:=3) rfl (h.rT (n:=4) rfl (h.rT (n:=5) rfl (h.rI (n:=6) rfl (h.rI (n:=7) rfl hφ)))))))
theorem zkG{c:UInt8}{r:Bs}(h:48<=c.toNat):IntKind.u8.wrap (za8 (bs (c::r)) 0-48)=((c.toNat-48:Nat):Int):=by
 have e:za8 (bs (c::r)) 0=(c.toNat:Int):=zkc (c::r) 0
 have:=c.toNat_lt
 rw[e,IntKind.wrap_u8]
 omega
theorem zgp{op:Int}{w:World}{R:VWP}(hR:∀w',Below w.heap.size w w'->R (.tuple #[fmA (fmO op (frm op)),.bool (frm op).isSome]) w') :
  cR 108 #[.int .u16 op] w R:=by
 refine zc.of (zhc op R w ?_) λ_ _ h=>h
 refine Nw.gen λw1 e1=>?_
 have hA1:Blk w1 w.heap.size 187 (fmV (fmO op none)):=by rw[e1];exact Blk.new w _ _
 have z1:w1.heap.size=w.heap.size+1:=by rw[e1];simp
 have b1:Below w.heap.size w w1:=by rw[e1];exact(Below.refl _ _).alloc (Nat.le_refl _) _
 clear e1
 refine zpy ⟨_,rfl,?_⟩
 dsimp only[zB,Go.Gk.Sl.zw,zi,zu,zb,zh];rw[ZT]
 rw[zqb]at hR
 cases hrow:rowP op with
 |none=>
  rw[hrow]at hR
  refine zH (by unfold rowT;rw[hrow];rfl) ?_
  refine YQ (vs:=fmV (fmO op none)) hA1 rfl λw2 h1 h2=>?_
  exact Fm.load h1 (hR w2 (h2.below b1 (Nat.le_refl _)))
 |some s=>
  rw[hrow]at hR
  have hok:=zqn hrow
  obtain⟨h128,h128',h5,hlen,hne,⟨c5,r5,e5,g5⟩,g4⟩:=zlv hok
  have ert:rowT op=s:=by unfold rowT;rw[hrow];rfl
  rw[ert]
  refine zz (by simpa using hne) ?_
  refine zkU hok λw2 b2=>?_
  have hA2:=hA1.below b2
  have b2':Below w.heap.size w w2:=b1.trans (b2.mono (by omega))
  have z2:w.heap.size<w2.heap.size:=by have:=b2.size;omega
  refine⟨(bs (fld s 0),bs (fld s 1),bs (fld s 2),bs (fld s 3),bs (fld s 4),bs (fld s 5),()),rfl,?_⟩
  refine zgN (T:=220) (vs:=six [fld s 0,fld s 1,fld s 2,fld s 3,fld s 4,fld s 5]) rfl λw3 hB b3 z3=>?_
  have hA3:=hA2.below b3
  have b3':Below w.heap.size w w3:=b2'.trans (b3.mono (by omega))
  refine⟨⟨by decide,by decide⟩,hB.drew.rT (n:=0) rfl ⟨⟨by decide,by decide⟩,hB.drew.rT (n:=2) rfl ⟨⟨by decide,by decide⟩,hB.drew.rT (n:=3) rfl ⟨⟨by decide,by decide⟩,hB.drew.rT (n:=5) rfl ⟨⟨by decide,?_⟩,?_⟩⟩⟩⟩⟩
  ·rw[yl,e5];simp
  refine Nw.gen λw4 e4=>?_
  have hC4:Blk w4 w3.drew.heap.size 187 (fmV (fmO op none)):=by rw[e4];exact Blk.new w3.drew _ _
  have hB4:Blk w4 w2.heap.size 220 (six [fld s 0,fld s 1,fld s 2,fld s 3,fld s 4,fld s 5]):=by rw[e4];exact hB.drew.alloc _
  have hA4:Blk w4 w.heap.size 187 (fmV (fmO op none)):=by rw[e4];exact hA3.drew.alloc _
  have b4:Below w.heap.size w w4:=by rw[e4];exact b3'.drew.alloc (by show w.heap.size<=w3.heap.size;omega) _
  have z4:w4.heap.size=w3.heap.size+1:=by rw[e4];simp
  clear e4
  refine⟨hB4.cell (n:=5) rfl,hB4.cell (n:=3) rfl,hB4.cell (n:=2) rfl,hB4.cell (n:=0) rfl,?_⟩
  have zd:w3.drew.heap.size=w3.heap.size:=rfl
  generalize w3.drew.heap.size=n4 at zd hC4
  rw[e5,zkG g5]
  refine YQ (vs:=[.int .u16 op,.string (bs (fld s 0)),.bool false,.bool false,.string (bs (fld s 2)),.string (bs (fld s 3)),.int .i64 0,.int .u8 ((c5.toNat-48:Nat):Int)]) hC4 rfl λw5 hC5 c5'=>?_
  have hB5:=c5'.blk hB4 (by omega)
  have hA5:=c5'.blk hA4 (by omega)
  have b5:=c5'.below b4 (by omega)
  have z5:=c5'.size
  refine⟨⟨by decide,by decide⟩,hB5.rT (n:=1) rfl ?_⟩
  refine Nw.gen λw6 e6=>?_
  have hI6:w6.heap[w5.heap.size]? =some (.stringIter (bs (fld s 1)) 0):=by
   rw[e6]
   show(w5.heap.push _)[w5.heap.size]? =_
   simp
  have hC6:=hC5.alloc (.stringIter (bs (fld s 1)) 0)
  have hB6:=hB5.alloc (.stringIter (bs (fld s 1)) 0)
  have hA6:=hA5.alloc (.stringIter (bs (fld s 1)) 0)
  have z6:w6.heap.size=w5.heap.size+1:=by rw[e6];simp
  have b6:Below w.heap.size w w6:=by rw[e6];exact b5.alloc (by omega) _
  rw[<-e6]at hC6 hB6 hA6
  clear e6
  refine zj.ghost (λj (_:Unit) w'=>∃k,k<=(fld s 1).length/\j=(fld s 1).length-k/\w'.heap.size=w6.heap.size/\Below w.heap.size w w'/\w'.heap[w5.heap.size]? =some (.stringIter (bs (fld s 1)) k)/\
   Blk w' w.heap.size 187 (fmV (fmO op none))/\Blk w' w2.heap.size 220 (six [fld s 0,fld s 1,fld s 2,fld s 3,fld s 4,fld s 5])/\
   Blk w' n4 187 [.int .u16 op,.string (bs (fld s 0)),.bool (((fld s 1).take k).contains 84),.bool (((fld s 1).take k).contains 82),.string (bs (fld s 2)),.string (bs (fld s 3)),.int .i64 0,.int .u8 ((c5.toNat-48:Nat):Int)])
   (fld s 1).length ⟨0,Nat.zero_le _,rfl,rfl,b6,hI6,hA6,hB6,hC6⟩ ?_
  rintro _ _ w7 ⟨k,hk,rfl,hz,hb,hI,hA,hB',hC⟩ next hnext
  refine⟨bs (fld s 1),k,hI,λhlt=>?_,λhge=>?_⟩
  ·rw[yl]at hlt
   have hc128:=h128' _ (List.getElem_mem hlt)
   rw[zaE hlt hc128]
   dsimp only
   have hc:=Chg.iter w5.heap.size w7 (bs (fld s 1)) (k+1)
   have hI8:=zaF (w:=w7) (s:=bs (fld s 1)) (p:=k+1) (r:=w5.heap.size) (by omega)
   generalize Y4 w7 w5.heap.size (bs (fld s 1)) (k+1)=w8 at hc hI8
   have hA8:=hc.blk hA (by omega)
   have hB8:=hc.blk hB' (by omega)
   have hC8:=hc.blk hC (by omega)
   have hb8:=hc.below hb (by omega)
   have hz8:=hc.size.trans hz
   have htk:(fld s 1).take (k+1)=(fld s 1).take k++[(fld s 1)[k]]:=List.take_succ_eq_append_getElem hlt
   have hcon:∀(d:UInt8),((fld s 1).take (k+1)).contains d=(((fld s 1).take k).contains d||(((fld s 1)[k].toNat:Int)==((d.toNat:Nat):Int))):=by
    intro d
    rw[htk,List.contains_append]
    congr 1
    simp only[List.contains_cons,List.contains_nil,Bool.or_false]
    by_cases e:(fld s 1)[k]=d
    ·rw[e];simp
    ·have e1:(d==(fld s 1)[k])=false:=beq_eq_false_iff_ne.2 λh=>e h.symm
     have e2:(((fld s 1)[k].toNat:Int)==((d.toNat:Nat):Int))=false:=beq_eq_false_iff_ne.2 λh=>e (UInt8.toNat.inj (by omega))
     rw[e1,e2]
   refine zk.cut (λ_ w9=>Chg n4 w8 w9/\Blk w9 n4 187 [.int .u16 op,.string (bs (fld s 0)),.bool (((fld s 1).take (k+1)).contains 84),.bool (((fld s 1).take k).contains 82),.string (bs (fld s 2)),.string (bs (fld s 3)),.int .i64 0,.int .u8 ((c5.toNat-48:Nat):Int)]) ?_ ?_
   ·refine hC8.rB (n:=2) rfl (zn (λht=>?_) (λht=>?_))
    ·refine⟨hC8.wr (n:=2) (by simp),Chg.set _ _ _ _,?_⟩
     have:=hC8.set 2 (.bool true)
     rw[hcon 84,ht]
     exact this
    ·refine⟨hC8.wr (n:=2) (by simp),Chg.set _ _ _ _,?_⟩
     have:=hC8.set 2 (.bool (((fld s 1)[k].toNat:Int)==84))
     rw[hcon 84,ht,Bool.false_or]
     exact this
   ·rintro _ w9 ⟨c9,hC9⟩
    have fin:∀w10,Chg n4 w9 w10->Blk w10 n4 187 [.int .u16 op,.string (bs (fld s 0)),.bool (((fld s 1).take (k+1)).contains 84),.bool (((fld s 1).take (k+1)).contains 82),.string (bs (fld s 2)),.string (bs (fld s 3)),.int .i64 0,.int .u8 ((c5.toNat-48:Nat):Int)]->next () w10:=by
     intro w10 c10 hC10
     have cc:=c9.trans c10
     refine hnext ((fld s 1).length-(k+1)) _ _ (by omega) ⟨k+1,hlt,rfl,cc.size.trans hz8,cc.below hb8 (by omega),?_,cc.blk hA8 (by omega),cc.blk hB8 (by omega),hC10⟩
     rw[cc.block _ (by omega)]
     exact hI8
    refine hC9.rB (n:=3) rfl (zn (λht=>?_) (λht=>?_))
    ·refine⟨hC9.wr (n:=3) (by simp),fin _ (Chg.set _ _ _ _) ?_⟩
     have:=hC9.set 3 (.bool true)
     rw[hcon 82,ht]
     exact this
    ·refine⟨hC9.wr (n:=3) (by simp),fin _ (Chg.set _ _ _ _) ?_⟩
     have:=hC9.set 3 (.bool (((fld s 1)[k].toNat:Int)==82))
     rw[hcon 82,ht,Bool.false_or]
     exact this
  ·rw[yl]at hge
   have hk:k=(fld s 1).length:=by omega
   subst hk
   rw[List.take_length]at hC
   refine zk.cut (λ_ w9=>Chg n4 w7 w9/\Blk w9 n4 187 (fmV (fmO op (some (zh9 s))))) ?_ ?_
   ·refine⟨⟨by decide,by decide⟩,hB'.rT (n:=4) rfl ?_⟩
    rw[ZT]
    cases e4:fld s 4 with
    |nil=>
     refine zz rfl ⟨Chg.refl _ _,?_⟩
     have ep:zh9 s=(fld s 0,(fld s 1).contains 84,(fld s 1).contains 82,fld s 2,fld s 3,0,c5.toNat-48):=by
      unfold zh9
      rw[e4,e5]
     rw[ep]
     exact hC
    |cons c4 r4=>
     have g:=g4 _ _ e4
     refine zH rfl ⟨⟨by decide,by decide⟩,?_⟩
     rw[e4]at hB'
     refine hB'.rT (n:=4) rfl ⟨⟨by decide,by rw[yl];simp⟩,hC.wr (n:=6) (by simp),Chg.set _ _ _ _,?_⟩
     rw[zkG g,zy (by omega) (by have:=c4.toNat_lt;omega)]
     have ep:zh9 s=(fld s 0,(fld s 1).contains 84,(fld s 1).contains 82,fld s 2,fld s 3,c4.toNat-48,c5.toNat-48):=by
      unfold zh9
      rw[e4,e5]
     rw[ep]
     exact hC.set 6 (.int .i64 ((c4.toNat-48:Nat):Int))
   ·rintro _ w9 ⟨c9,hC9⟩
    refine Fm.load hC9 ?_
    refine YQ (vs:=fmV (fmO op (some (zh9 s)))) (c9.blk hA (by omega)) rfl λw10 h1 h2=>?_
    exact Fm.load h1 (hR w10 (h2.below (c9.below hb (by omega)) (Nat.le_refl _)))
end Go.Proofs
namespace Go.Proofs
open Go.Gk Go.RowKit Go.Gm
def fl0:Fl:=([],false,false,[],[],0,0)
def flOf(op:Int):Fl:=(frm op).getD fl0
theorem zmQ(op:Int):zc7 (flOf op)=true:=by
 unfold flOf
 cases h:frm op with
 |none=>decide +kernel
 |some f=>exact zkX h
structure FmIs (f:Fm) (g:Fl):Prop where
 fixed:f.2.2.2.2.1=bs g.fixed
 rest:f.2.2.2.2.2.1=bs g.rest
 most:f.2.2.2.2.2.2.1=(g.most:Int)
theorem fmIs(op:Int):FmIs (fmO op (frm op)) (flOf op):=by
 unfold flOf
 cases h:frm op with
 |none=>exact⟨rfl,rfl,rfl⟩
 |some f=>exact⟨rfl,rfl,rfl⟩
structure LOk (g:Fl):Prop where
 fixed:∀c∈g.fixed,c≠0
 rest:∀c∈g.rest,c≠0
 fl:g.fixed.length<=100
 rl:g.rest.length<=100
 ml:g.most<=100
theorem lOk{g:Fl}(h:zc7 g=true):LOk g:=by
 unfold zc7 at h
 simp only[Bool.and_eq_true,List.all_eq_true,bne_iff_ne,decide_eq_true_eq]at h
 obtain⟨⟨⟨⟨h1,h2⟩,h3⟩,h4⟩,h5⟩:=h
 exact⟨h1,h2,h3,h4,h5⟩
def fixP(g:Fl)(k:Nat):Nat:=if k<g.fixed.length then(g.fixed.getD k 0).toNat else 0
def zhA(g:Fl)(k:Nat):Nat:=
 if k<g.fixed.length then 0 else if g.rest.length=0 then 0 else if 0<g.most/\g.most*g.rest.length<=k-g.fixed.length then 0
 else(g.rest.getD ((k-g.fixed.length) % g.rest.length) 0).toNat
theorem zoK{g:Fl}{k:Nat}(h:fixP g k≠0):letP g k=fixP g k:=by
 unfold fixP at h⊢
 unfold letP
 split
 ·rfl
 ·rename_i h1;rw[if_neg h1]at h;exact absurd rfl h
theorem zj8{g:Fl}(hg:LOk g){k:Nat}(h:fixP g k=0):letP g k=zhA g k:=by
 unfold fixP at h
 unfold zhA letP
 split at h
 ·rename_i h1
  rw[zt h1]at h
  exact absurd (UInt8.toNat.inj (b:=0) h) (hg.fixed _ (List.getElem_mem h1))
 ·rename_i h1
  rw[if_neg h1,if_neg h1]
section
variable {f:Fm} {g:Fl} {w:World} {R:VWP}
theorem zmf(hf:FmIs f g){i:Nat}(hR:∀w',Below w.heap.size w w'->R (.int .u8 (fixP g i:Int)) w') :
  cR 145 #[fmA f,.int .i64 (i:Int)] w R:=by
 refine zc.of (zbW f i R w ?_) λ_ _ h=>h
 refine zl λw1 hB b1 z1=>?_
 have hB:Blk w1 w.heap.size 191 (fmV f):=hB
 have hf4:=hf.fixed
 refine zk.cut (λ_ w'=>w'=w1/\i<g.fixed.length) ?_ ?_
 ·refine zg (λh=>absurd h (by omega)) (λ_=>?_)
  refine hB.rT (n:=4) rfl ?_
  rw[hf4,yl]
  refine zg (λh=>?_) (λh=>⟨rfl,by omega⟩)
  have:=hR w1 b1
  rwa[fixP,if_neg (by omega)]at this
 ·rintro _ w' ⟨rfl,hlt⟩
  refine hB.rT (n:=4) rfl ?_
  rw[hf4,yl,zkc]
  refine⟨⟨by omega,by omega⟩,?_⟩
  have:=hR w' b1
  rwa[fixP,if_pos hlt]at this
theorem znI(hf:FmIs f g)(hg:LOk g){i:Nat}(hi:i<=9223372036854775807)(hR:∀w',Below w.heap.size w w'->R (.int .u8 (zhA g i:Int)) w') :
  cR 146 #[fmA f,.int .i64 (i:Int)] w R:=by
 refine zc.of (zc2 f i R w ?_) λ_ _ h=>h
 refine zl λw1 hB b1 z1=>?_
 have hB:Blk w1 w.heap.size 191 (fmV f):=hB
 have h1:=hg.fl
 have h2:=hg.rl
 have h3:=hg.ml
 refine hB.rT (n:=4) rfl ?_
 have hf4:=hf.fixed
 have hf5:=hf.rest
 have hf6:=hf.most
 rw[hf4,yl,zy (by omega) (by omega)]
 have hmul:g.most*g.rest.length<=10000:=Nat.le_trans (Nat.mul_le_mul h3 h2) (by omega)
 refine zk.cut (λ_ w'=>w'=w1/\g.fixed.length<=i/\g.rest.length≠0/\¬(0<g.most/\g.most*g.rest.length<=i-g.fixed.length)) ?_ ?_
 ·refine zg (λh=>?_) (λh=>?_)
  ·have:=hR w1 b1
   rwa[zhA,if_pos (by omega)]at this
  ·have hge:¬i<g.fixed.length:=by omega
   refine hB.rT (n:=5) rfl ?_
   rw[hf5,ZT]
   refine zn (λe=>?_) (λe=>?_)
   ·have:=hR w1 b1
    rwa[zhA,if_neg hge,if_pos (by rw[List.isEmpty_iff]at e;rw[e];rfl)]at this
   ·have hne:g.rest.length≠0:=by
     intro h
     rw[List.eq_nil_of_length_eq_zero h]at e
     cases e
    refine hB.rI (n:=6) rfl ?_
    rw[hf6]
    refine zg (λhm=>?_) (λhm=>⟨rfl,by omega,hne,by omega⟩)
    refine hB.rI (n:=6) rfl (hB.rT (n:=5) rfl ?_)
    rw[hf6,hf5,yl,<-Int.natCast_mul,zy (by omega) (by omega)]
    refine zg (λhc=>?_) (λhc=>⟨rfl,by omega,hne,by omega⟩)
    have:=hR w1 b1
    rwa[zhA,if_neg hge,if_neg hne,if_pos ⟨by omega,by omega⟩]at this
 ·rintro _ w' ⟨rfl,hge,hne,hno⟩
  refine hB.drew.rT (n:=5) rfl (hB.drew.rT (n:=5) rfl ?_)
  rw[hf5,yl]
  refine zg (λh=>absurd h (by omega)) (λ_=>?_)
  have e:Int.tmod ((i:Int)-(g.fixed.length:Int)) (g.rest.length:Int)=(((i-g.fixed.length) % g.rest.length:Nat):Int):=by
   rw[show(i:Int)-(g.fixed.length:Int)=((i-g.fixed.length:Nat):Int) by omega]
   exact Int.ofNat_tmod _ _ |>.symm
  have hlt:(i-g.fixed.length) % g.rest.length<g.rest.length:=Nat.mod_lt _ (by omega)
  rw[e,zkc]
  refine⟨⟨by omega,by omega⟩,?_⟩
  have:=hR w'.drew b1.drew
  rwa[zhA,if_neg (by omega),if_neg hne,if_neg hno]at this
theorem zh6(hf:FmIs f g)(hg:LOk g){i:Nat}(hi:i<=9223372036854775807)(hR:∀w',Below w.heap.size w w'->R (.int .u8 (letP g i:Int)) w') :
  cR 110 #[fmA f,.int .i64 (i:Int)] w R:=by
 refine zc.of (zbz f i R w ?_) λ_ _ h=>h
 refine zl λw1 hB b1 z1=>?_
 have hB:Blk w1 w.heap.size 191 (fmV f):=hB
 refine zg (λh=>absurd h (by omega)) (λ_=>?_)
 refine Fm.load hB (Fm.load hB ?_)
 refine zl λw2 hF b2 z2=>?_
 have b2':=b1.on b2
 refine zj.count 2 (by omega) (λk w'=>Below w.heap.size w w'/\Below w2.heap.size w2 w'/\(0<k->fixP g i=0)/\(1<k->zhA g i=0)) ⟨b2',Below.refl _ _,λh=>by omega,λh=>by omega⟩ ?_
 rintro k w3 hk ⟨hb,hb2,hk1,hk2⟩ next hnext
 have hF3:=hF.below hb2
 have z3:=hb.size
 refine zg (λh=>?_) (λh=>?_)
 ·refine⟨⟨by omega,by omega⟩,?_⟩
  match k,h,hk1,hk2,hnext with
  | 0,_,_,_,hnext=>
   refine⟨_,hF3.cell (n:=0) rfl,?_⟩
   show cR 145 #[fmA f,.int .i64 (i:Int)] w3 _
   refine zmf hf λw4 b4=>⟨_,rfl,?_⟩
   refine zE (λe=>?_) (λe=>?_)
   ·have:=hR w4 (hb.on b4)
    rwa[zoK (by omega)]at this
   ·exact hnext w4 (by omega) ⟨hb.on b4,hb2.on b4,λ_=>by omega,λh=>by omega⟩
  | 1,_,hk1,_,hnext=>
   refine⟨_,hF3.cell (n:=1) rfl,?_⟩
   show cR 146 #[fmA f,.int .i64 (i:Int)] w3 _
   refine znI hf hg hi λw4 b4=>⟨_,rfl,?_⟩
   have hf0:=hk1 (by omega)
   refine zE (λe=>?_) (λe=>?_)
   ·have:=hR w4 (hb.on b4)
    rwa[zj8 hg hf0]at this
   ·exact hnext w4 (by omega) ⟨hb.on b4,hb2.on b4,λ_=>hf0,λ_=>by omega⟩
  |k+2,h,_,_,_=>dsimp only at h;omega
 ·have hk:1<k:=by dsimp only at h;omega
  have:=hR w3 hb
  rwa[zj8 hg (hk1 (by omega)),hk2 hk]at this
end
theorem zmV(c:Int)(R:VWP)(w:World):zap c R w=zjt tabN c (λs=>R (.string (bs s)) w) (R (.string (bs [])) w):=by kernel_rfl
theorem zjl{c:Int}{w:World}{R:VWP}(hR:R (.int .u8 (zah c)) w):cR 109 #[.int .u8 c] w R:=by
 refine zc.of (zf4 c R w ?_) λ_ _ h=>h
 unfold zah at hR
 refine zm (λe=>by rwa[if_pos e]at hR) (λe=>?_)
 rw[if_neg e]at hR
 refine zm (λe=>by rwa[if_pos e]at hR) (λe=>?_)
 rw[if_neg e]at hR
 refine zm (λe=>by rwa[if_pos e]at hR) (λe=>?_)
 rw[if_neg e]at hR
 refine zc.of (zaA c _ w ?_) λ_ _ h=>h
 rw[zmV]
 refine zcy (λs hs=>⟨_,rfl,?_⟩) (λhs=>⟨_,rfl,?_⟩)
 ·dsimp only[zB,Go.Gk.Sl.zw,zi,zu,zb,zh];rw[ZT]
  have:=List.all_eq_true.1 zpg _ (ZI hs)
  rw[hs]at hR
  exact zH this hR
 ·dsimp only[zB,Go.Gk.Sl.zw,zi,zu,zb,zh];rw[ZT]
  rw[hs]at hR
  exact zz rfl hR
theorem zjk{op:Int}{s:Sl}{ks:List Int}{w:World}{R:VWP}(hs:IsS (Value.int .u8) w s ks)
  (hR:∀w',Below w.heap.size w w'->R (.tuple #[.int .i64 ((fitP op ks).1:Int),.bool (fitP op ks).2]) w') :
  cR 73 #[.int .u16 op,.slice s.a s.l s.c] w R:=by
 refine zc.of (zf3 op s R w ?_) λ_ _ h=>h
 have hg:=lOk (zmQ op)
 have hlen:=hs.len
 have hmax:=hs.bound
 refine zgp λw1 b1=>⟨fmO op (frm op),(frm op).isSome,rfl,?_⟩
 refine zgN (T:=187) (vs:=fmV (fmO op (frm op))) rfl λw2 hB b2 z2=>?_
 refine zn (λhn=>?_) (λhn=>?_)
 ·have hfr:frm op=none:=by
   cases h:frm op with
   |none=>rfl
   |some g=>rw[h]at hn;cases hn
  rw[znp hfr]at hR
  exact hR w2 (b1.on b2)
 ·obtain⟨g,hfr⟩:∃g,frm op=some g:=by
   cases h:frm op with
   |none=>rw[h]at hn;cases hn
   |some g=>exact⟨g,rfl⟩
  rw[zjy hfr]at hR
  have efl:flOf op=g:=by unfold flOf;rw[hfr];rfl
  have hfm:=fmIs op
  rw[efl]at hfm hg
  generalize fmO op (frm op)=fm at hB hfm
  refine Fm.load hB ?_
  refine box8 rfl λw3 hC b3 z3=>?_
  have hC:Blk w3 w2.heap.size 191 (fmV fm):=hC
  have b3':=(b1.on b2).on b3
  refine zj.count s.l (by omega) (λk w'=>Below w.heap.size w w'/\Below w3.heap.size w3 w'/\∀j,j<k->bad g ks j=false) ⟨b3',Below.refl _ _,λj hj=>by omega⟩ ?_
  rintro k w4 hk ⟨hb,hb3,hj⟩ next hnext
  have hC4:=hC.below hb3
  have hs4:=hs.below hb
  refine zg (λh=>?_) (λh=>?_)
  ·have hlt:k<ks.length:=by dsimp only at h;omega
   have hbadE:bad g ks k=(ks[k]==0||zah (letP g k) !=ks[k]):=by unfold bad;rw[zt hlt]
   refine zk.cut (λ_ w'=>Below w4.heap.size w4 w'/\bad g ks k=false) ?_ ?_
   ·refine hs4.addr hlt λa _ hc=>⟨_,hc,?_⟩
    refine zm (λe=>?_) (λe=>?_)
    ·have:=hR w4 hb
     rwa[zmP hlt (by rw[hbadE,e];rfl) hj]at this
    ·refine Fm.load hC4 ?_
     refine zh6 hfm hg (by omega) λw5 b5=>⟨_,rfl,?_⟩
     refine zjl ⟨_,rfl,?_⟩
     refine zE (λe2=>?_) (λe2=>?_)
     ·have:=hR w5 (hb.on b5)
      rwa[zmP hlt (by rw[hbadE,bne_iff_ne.2 e2,Bool.or_true]) hj]at this
     ·refine⟨b5,?_⟩
      rw[hbadE,e2]
      simpa using e
   ·rintro _ w5 ⟨b5,hbk⟩
    refine hnext w5 (by omega) ⟨hb.on b5,hb3.on b5,λj hj'=>?_⟩
    by_cases e:j=k
    ·subst e;exact hbk
    ·exact hj j (by omega)
  ·have hk:k=ks.length:=by dsimp only at h;omega
   subst hk
   have hfit:=zkV hj
   have hR':=hR w4 hb
   rw[show fitF g ks=_ from hfit]at hR'
   have h1:=hg.fl
   refine hC4.rT (n:=4) rfl ?_
   rw[hfm.fixed,yl,zy (by omega) (by omega),hlen]
   refine zg (λhn=>?_) (λhn=>?_)
   ·rwa[if_pos (by unfold zby;rw[decide_eq_true (by omega),Bool.true_or])]at hR'
   ·have hge:¬ks.length<g.fixed.length:=by omega
    refine hC4.rT (n:=5) rfl ?_
    rw[hfm.rest,ZT]
    refine zn (λe=>?_) (λe=>?_)
    ·have hne:g.rest.length≠0:=by
      intro h
      rw[List.eq_nil_of_length_eq_zero h]at e
      cases e
     refine hC4.rT (n:=5) rfl ?_
     rw[hfm.rest,yl]
     refine zg (λh=>absurd h (by omega)) (λ_=>?_)
     have e3:Int.tmod ((ks.length:Int)-(g.fixed.length:Int)) (g.rest.length:Int)=(((ks.length-g.fixed.length) % g.rest.length:Nat):Int):=by
      rw[show(ks.length:Int)-(g.fixed.length:Int)=((ks.length-g.fixed.length:Nat):Int) by omega]
      exact Int.ofNat_tmod _ _ |>.symm
     rw[e3]
     refine zE (λe4=>?_) (λe4=>?_)
     ·rwa[if_pos (by unfold zby;rw[decide_eq_false hge,decide_eq_true hne,decide_eq_true (by omega)];rfl)]at hR'
     ·rwa[if_neg (by unfold zby;rw[decide_eq_false hge,decide_eq_true hne,decide_eq_false (by omega)];decide)]at hR'
    ·have hz:g.rest.length=0:=by
      have:g.rest.isEmpty=true:=by simpa using e
      rw[List.isEmpty_iff]at this
      rw[this]
      rfl
     rwa[if_neg (by unfold zby;rw[decide_eq_false hge,decide_eq_false (show ¬g.rest.length≠0 by omega),Bool.false_and];decide)]at hR'
end Go.Proofs
namespace Go.Proofs
open Go.Gk Go.RowKit Go.Gm
end Go.Proofs
namespace Go.Gk
open Go.RowKit
theorem Blk.put{w:World}{b:Nat}{T:TypeId}{cs:List Value}(h:Blk w b T cs){l:Nat}(hl:b≠l)(o:Obj):Blk (w.putObj l o) b T cs:=h.of_block (World.putObj_heap_other hl)
theorem _root_.Go.RowKit.Below.putObj{B:Nat}{w w':World}(h:Below B w w'){b:Nat}(hb:B<=b)(o:Obj):Below B w (w'.putObj b o):=
 ⟨h.os,h.tape,h.output,by simpa using h.size,λk hk=>(World.putObj_heap_other (by omega)).trans (h.block k hk)⟩
theorem yn{w:World}{b k:Nat}(h:k≠b)(n:Nat)(v:Value):(w.setCell ((blk b).add n) v).heap[k]? =w.heap[k]?:=Below.heap_setCell _ _ _ _ (by rw[zp];exact h)
theorem zbo(w:World)(o o':Obj):Below w.heap.size w ((w.alloc o).alloc o'):=(((Below.refl _ _).alloc (Nat.le_refl _) o).alloc (by simp) o')
theorem zhf(w:World)(o o':Obj):((w.alloc o).alloc o').heap.size=w.heap.size+2:=by simp
theorem zkn(w:World)(o o':Obj):((w.alloc o).alloc o').heap[w.heap.size]? =some o:=(zex (w.alloc o) o' (by simp)).trans (World.alloc_heap_new w o)
theorem zko(w:World)(o o':Obj):((w.alloc o).alloc o').heap[w.heap.size+1]? =some o':=by
 have:=World.alloc_heap_new (w.alloc o) o'
 simpa using this
theorem zbh{d:Nat}{w:World}{k:World->Prop}(h:w.heap[d]? =some (.deferred (some [])))(hk:k (w.putObj d (.deferred none))):Yx [d] w k:=⟨h,hk⟩
theorem Zv.mono{P:Program}{fs:List Nat}{f:Value}{args:List Value}{w:World}{S T:VWP}(h:Zv P fs f args w S)(hk:∀v w',S v w'->T v w'):Zv P fs f args w T:=by
 revert h
 unfold Zv
 split
 ·split
  ·exact λh=>zc.mono h hk
  ·rintro⟨v,w',h1,h2⟩
   exact⟨v,w',h1,hk _ _ h2⟩
 ·rintro⟨r,h1,h2,h3⟩
  exact⟨r,h1,h2,RoundIn.mono h3 λe w' he=>by cases e<;>first |exact hk _ _ he |exact he.elim⟩
 ·exact id
end Go.Gk
namespace Go.Gk
open Go.RowKit Go.MapKept
variable {P:Program}
def zL:List (Int×Int)->Int->Option Int
 | [],_=>none
 |p::r,k=>if k=p.1 then some p.2 else zL r k
def setL:List (Int×Int)->Int->Int->List (Int×Int)
 | [],k,v=>[(k,v)]
 |p::r,k,v=>if k=p.1 then(k,v)::r else p::setL r k v
theorem zhj(k v k':Int):∀L,zL (setL L k v) k'=if k'=k then some v else zL L k'
 | []=>by simp only[setL,zL]
 |p::r=>by
  have ih:=zhj k v k' r
  simp only[setL]
  split
  ·rename_i e
   simp only[zL]
   split
   ·rfl
   ·rename_i e'
    rw[if_neg (by rw[<-e];exact e')]
  ·rename_i e
   simp only[zL]
   split
   ·rename_i e'
    rw[if_neg (by rw[e'];exact λh=>e h.symm)]
   ·exact ih
def IsMp(w:World)(r:Nat)(κ:IntKind)(L:List (Int×Int)):Prop:=
 ∃es clock,w.heap[r]? =some (.map es clock)/\es.toList.map (λe=>(e.key,e.val))=(L.map λp=>(Value.int .u32 p.1,Value.int κ p.2))/\(∀x∈es.toList,x.born<clock)/\(es.toList.map (·.born)).Nodup
theorem IsMp.lt{w:World}{r:Nat}{κ:IntKind}{L:List (Int×Int)}(h:IsMp w r κ L):r<w.heap.size:=by
 obtain⟨es,c,h,_⟩:=h
 exact(Array.getElem?_eq_some_iff.1 h).1
theorem IsMp.of_block{w w':World}{r:Nat}{κ:IntKind}{L:List (Int×Int)}(h:IsMp w r κ L)(hb:w'.heap[r]? =w.heap[r]?):IsMp w' r κ L:=by
 obtain⟨es,c,h,h2⟩:=h
 exact⟨es,c,hb.trans h,h2⟩
theorem IsMp.below{w w':World}{r:Nat}{κ:IntKind}{L:List (Int×Int)}(h:IsMp w r κ L)(hb:Below w.heap.size w w'):IsMp w' r κ L:=h.of_block (hb.block r h.lt)
theorem IsMp.new(w:World)(κ:IntKind):IsMp (w.alloc (.map #[] 0)) w.heap.size κ []:=⟨#[],0,by show(w.heap.push _)[w.heap.size]? =_;simp,rfl,(by simp),by simp⟩
theorem zf1(κ:IntKind)(k:Int):∀(es:List MapEntry) (L:List (Int×Int)) (i:Nat),es.map (λe=>(e.key,e.val))=(L.map λp=>(Value.int .u32 p.1,Value.int κ p.2))->
  ∃o,Instr.findNow (.int .u32) (.int .u32 k) es i=some o/\(match o with
   |none=>zL L k=none
   |some (j,v)=>∃m x,j=i+m/\m<es.length/\v =.int κ x/\zL L k=some x/\∃e,es[m]? =some e/\e.key =.int .u32 k/\∀v',(es.modify m λe=>{e with key:=.int .u32 k,val:=.int κ v'}).map (λe=>(e.key,e.val))=(setL L k v').map λp=>(Value.int .u32 p.1,Value.int κ p.2))
 | [],[],i,_=>⟨none,rfl,rfl⟩
 | [],_::_,_,h=>by simp at h
 |_::_,[],_,h=>by simp at h
 |e::es,p::L,i,h=>by
  simp only[List.map_cons,List.cons.injEq,Prod.mk.injEq]at h
  obtain⟨⟨h1,h2⟩,h3⟩:=h
  unfold Instr.findNow
  rw[h1]
  simp only[Instr.sameNow,if_true]
  by_cases hk:k=p.1
  ·rw[show(k==p.1)=true from beq_iff_eq.2 hk]
   refine⟨some (i,e.val),rfl,0,p.2,rfl,by simp,h2,by simp[zL,hk],e,rfl,by rw[h1,hk],λv'=>?_⟩
   simp[setL,hk,h3]
  ·rw[show(k==p.1)=false from beq_eq_false_iff_ne.2 hk]
   obtain⟨o,ho,hm⟩:=zf1 κ k es L (i+1) h3
   refine⟨o,ho,?_⟩
   cases o with
   |none=>simpa[zL,hk] using hm
   |some q=>
    obtain⟨j,v⟩:=q
    obtain⟨m,x,g1,g2,g3,g4,e',g5,g6,g7⟩:=hm
    refine⟨m+1,x,by omega,by simp;omega,g3,by simpa[zL,hk] using g4,e',by simpa using g5,g6,λv'=>?_⟩
    have:=g7 v'
    simp[setL,hk,h1,h2,this]
theorem zhD{t kt et:TypeId}(ht:P.underlying t=some (.map kt et))(hk:P.underlying kt=some (.int .u32)){κ:IntKind}(hz:∃i,P.info? et=some i/\i.zero=some (.int κ 0)){w:World}{r:Nat}{L:List (Int×Int)}(h:IsMp w r κ L)(k:Int)(ok:Bool) :
  (Instr.lookup t (.map (some r)) (.int .u32 k) ok).run P w =.ok (if ok then .tuple #[.int κ ((zL L k).getD 0),.bool (zL L k).isSome] else .int κ ((zL L k).getD 0)) w:=by
 obtain⟨es,c,hb,hes,_⟩:=h
 obtain⟨i,hi,hzi⟩:=hz
 obtain⟨o,ho,hm⟩:=zf1 κ k es.toList L 0 hes
 unfold Instr.lookup
 have hck:∀e,(Instr.checkKey e 10000 kt (.int .u32 k)).run P w =.ok () w:=λe=>run_checkKey (d:=.int .u32) hk (by simp[IsKey]) e 9999
 have hg:(getObj r).run P w =.ok (.map es c) w:=Go.MapKept.run_getObj_map hb
 simp only[Sem.run_bind,run_underlying ht,Result.andThen_ok,hg,Sem.run_pure,hck,run_findKey hk ho]
 cases o with
 |none=>
  have hzr:(zeroValue et).run P w =.ok (.int κ 0) w:=by simp[zeroValue,typeInfo,hi,hzi,Result.andThen]
  have hm:zL L k=none:=hm
  simp only[Sem.run_bind,hzr,Result.andThen_ok,Sem.run_pure,hm,Option.getD_none,Option.isSome_none]
 |some q=>
  obtain⟨j,v⟩:=q
  obtain⟨m,x,g1,g2,g3,g4,_⟩:=hm
  simp only[Sem.run_bind,Sem.run_pure,Result.andThen_ok,g3,g4,Option.getD_some,Option.isSome_some]
theorem zjA{t kt et:TypeId}(ht:P.underlying t=some (.map kt et))(hk:P.underlying kt=some (.int .u32)){κ:IntKind}(hz:∃i,P.info? et=some i/\i.zero=some (.int κ 0)){w:World}{r:Nat}{L:List (Int×Int)}(h:IsMp w r κ L){k:Int}{φ:Int->Bool->Prop}
  (hφ:φ ((zL L k).getD 0) (zL L k).isSome):zkq P t (.map (some r)) (.int .u32 k) (BK.int κ) w φ:=⟨(zL L k).getD 0,(zL L k).isSome,zhD ht hk hz h k true,hφ⟩
theorem zoT{t kt et:TypeId}(ht:P.underlying t=some (.map kt et))(hk:P.underlying kt=some (.int .u32)){κ:IntKind}(hz:∃i,P.info? et=some i/\i.zero=some (.int κ 0)){w:World}{r:Nat}{L:List (Int×Int)}(h:IsMp w r κ L){k:Int}{φ:Int->Prop}
  (hφ:φ ((zL L k).getD 0)):ziE P t (.map (some r)) (.int .u32 k) (BK.int κ) w φ:=⟨(zL L k).getD 0,zhD ht hk hz h k false,hφ⟩
theorem zna{t kt et:TypeId}(ht:P.underlying t=some (.map kt et))(hk:P.underlying kt=some (.int .u32)){κ:IntKind}{w:World}{r:Nat}{L:List (Int×Int)}(h:IsMp w r κ L){k v:Int}{K:World->Prop}
  (hK:∀w',IsMp w' r κ (setL L k v)->Go.Proofs.Chg r w w'->K w'):updW P t (.map (some r)) (.int .u32 k) (.int κ v) w K:=by
 have hlt:=h.lt
 obtain⟨es,c,hb,hes,hstamp,hnd⟩:=h
 obtain⟨o,ho,hm⟩:=zf1 κ k es.toList L 0 hes
 have hck:∀e,(Instr.checkKey e 10000 kt (.int .u32 k)).run P w =.ok () w:=λe=>run_checkKey (d:=.int .u32) hk (by simp[IsKey]) e 9999
 have hg:(getObj r).run P w =.ok (.map es c) w:=Go.MapKept.run_getObj_map hb
 have chg:∀ob:Obj,Go.Proofs.Chg r w {w with heap:=w.heap.setIfInBounds r ob}:=λob=>⟨rfl,rfl,rfl,by simp,λi hi=>by simp[Array.getElem?_setIfInBounds_ne (Ne.symm hi)]⟩
 unfold updW Instr.mapUpdate
 simp only[Sem.run_bind,run_underlying ht,Result.andThen_ok,hg,Sem.run_pure,hck,run_findKey hk ho]
 cases o with
 |none=>
  simp only[run_setObj_map _ hb]
  refine⟨_,rfl,hK _ ⟨_,_,(heap_set hb).1,?_,λx hx=>?_,?_⟩ (chg _)⟩
  rotate_left
  ·rw[Array.toList_push]at hx
   rcases List.mem_append.1 hx with hx |hx
   ·exact Nat.lt_succ_of_lt (hstamp x hx)
   ·rw[List.mem_singleton.1 hx]
    exact Nat.lt_succ_self c
  ·rw[Array.toList_push,List.map_append]
   refine List.nodup_append.2 ⟨hnd,by simp,?_⟩
   intro a ha b hb e
   obtain⟨x,hx,rfl⟩:=List.mem_map.1 ha
   simp only[List.map_cons,List.map_nil,List.mem_singleton]at hb
   have:=hstamp x hx
   omega
  simp only[Array.toList_push,List.map_append,hes,List.map_cons,List.map_nil]
  have:∀L:List (Int×Int),zL L k=none->setL L k v=L++[(k,v)]:=by
   intro L
   induction L with
   |nil=>intro _;rfl
   |cons p r ih=>
    intro hn
    simp only[zL]at hn
    split at hn
    ·cases hn
    ·rename_i e
     simp only[setL]
     rw[if_neg e,ih hn]
     rfl
  rw[this L hm]
  simp
 |some q=>
  obtain⟨j,v0⟩:=q
  obtain⟨m,x,g1,g2,g3,g4,e,g5,g6,g7⟩:=hm
  have hj:j=m:=by omega
  subst hj
  have hst:(Instr.keyThatStays (((es[j]?).map (·.key)).getD (.int .u32 k)) (.int .u32 k)).run P w =.ok (.int .u32 k) w:=by
   have:((es[j]?).map (·.key)).getD (.int .u32 k) =.int .u32 k:=by
    rw[<-Array.getElem?_toList,g5]
    exact g6
   rw[this]
   unfold Instr.keyThatStays
   rw[if_pos (by simp[Instr.sameBits])]
   rfl
  simp only[Sem.run_bind,hst,Result.andThen_ok,run_setObj_map _ hb]
  have hbn:(es.modify j λe=>{e with key:=.int .u32 k,val:=.int κ v}).toList.map (·.born)=es.toList.map (·.born):=by
   rw[Array.toList_modify]
   apply List.ext_getElem
   ·simp
   ·intro n q1 q2
    simp only[List.getElem_map,List.getElem_modify]
    split<;>rfl
  refine⟨_,rfl,hK _ ⟨_,_,(heap_set hb).1,?_,λx hx=>?_,by rw[hbn];exact hnd⟩ (chg _)⟩
  rotate_left
  ·have:x.born∈es.toList.map (·.born):=by rw[<-hbn];exact List.mem_map.2 ⟨x,hx,rfl⟩
   obtain⟨y,hy,e⟩:=List.mem_map.1 this
   rw[<-e]
   exact hstamp y hy
  have:=g7 v
  rw[<-this]
  congr 1
  rw[Array.toList_modify]
end Go.Gk
namespace Go.Gm
open Go.Gk
def numS(n:Int)(c:UInt8):Int:=IntKind.u32.wrap (IntKind.u32.wrap (10*n)+IntKind.u32.wrap (IntKind.i32.wrap ((c.toNat:Int)-48)))
def numP(s:Bs):Int:=s.foldl numS 0
abbrev EnS:=Int×Bs×Bool×List (Int×Bs)
def enS(st:EnS)(c:UInt8):EnS:=
 if c=32 then(if st.2.2.1=true then(st.1,[],false,st.2.2.2++[(st.1,st.2.1)]) else(numP st.2.1,[],true,st.2.2.2)) else(st.1,st.2.1++[c],st.2.2.1,st.2.2.2)
def enG(s:Bs):EnS:=s.foldl enS (0,[],false,[])
def enL(c:Int):List (Int×Bs):=(enG ((Gm.look tabN c).getD [])).2.2.2
theorem zow(s:Bs)(c:UInt8):enG (s++[c])=enS (enG s) c:=by simp[enG,List.foldl_append]
theorem zpU(st:EnS)(c:UInt8):st.2.2.2 <+:(enS st c).2.2.2:=by
 unfold enS
 split
 ·split
  ·exact List.prefix_append _ _
  ·exact List.prefix_refl _
 ·exact List.prefix_refl _
theorem znt(l:Bs):∀st:EnS,st.2.2.2 <+:(l.foldl enS st).2.2.2:=by
 induction l with
 |nil=>intro st;exact List.prefix_refl _
 |cons c l ih=>intro st;exact(zpU st c).trans (ih _)
theorem zpT(s:Bs)(k:Nat):(enG (s.take k)).2.2.2 <+:(enG s).2.2.2:=by
 have:enG s=(s.drop k).foldl enS (enG (s.take k)):=by
  unfold enG
  rw[<-List.foldl_append,List.take_append_drop]
 rw[this]
 exact znt _ _
theorem zox(s:Bs):(enG s).2.1.length<=s.length:=by
 suffices h:∀(l:Bs) (st:EnS),(l.foldl enS st).2.1.length<=st.2.1.length+l.length by
  have:=h s (0,[],false,[])
  unfold enG
  simpa using this
 intro l
 induction l with
 |nil=>intro st;simp
 |cons c l ih=>
  intro st
  have h1:=ih (enS st c)
  have h2:(enS st c).2.1.length<=st.2.1.length+1:=by
   unfold enS
   split
   ·split<;>simp
   ·simp
  simp only[List.foldl_cons,List.length_cons]
  omega
theorem znn{s:Bs}(h:∀c∈s,c<128):∀c∈(enG s).2.1,c<128:=by
 suffices g:∀(l:Bs) (st:EnS),(∀c∈l,c<128)->(∀c∈st.2.1,c<128)->∀c∈(l.foldl enS st).2.1,c<128 from g s (0,[],false,[]) h (by simp)
 intro l
 induction l with
 |nil=>intro st _ h;exact h
 |cons c l ih=>
  intro st hl hs
  refine ih (enS st c) (λd hd=>hl d (List.mem_cons_of_mem _ hd)) ?_
  unfold enS
  split
  ·split<;>simp
  ·intro d hd
   rcases List.mem_append.1 hd with h |h
   ·exact hs d h
   ·rw[List.mem_singleton.1 h];exact hl c List.mem_cons_self
theorem zlo:tabN.all (λp=>p.2.all (·<128)&&decide (p.2.length<=200))=true:=by decide +kernel
theorem zmw:tabN.all (λp=>decide ((enG p.2).2.2.2=(tabM.filter λq=>decide (q.1=p.1)).map (·.2)))=true:=by decide +kernel
def zgj(c n:Int):Bool:=tabM.any λq=>decide (q.1=c)&&decide (q.2.1=n)
theorem znJ(c:Int):(∀b∈(Gm.look tabN c).getD [],b<128)/\((Gm.look tabN c).getD []).length<=200:=by
 cases h:Gm.look tabN c with
 |none=>simp
 |some s=>
  have:=List.all_eq_true.1 zlo _ (ZI h)
  simp only[Bool.and_eq_true,List.all_eq_true,decide_eq_true_eq]at this
  exact this
theorem zkT(c n:Int):zgj c n=true↔∃x∈enL c,x.1=n:=by
 unfold zgj enL
 rw[List.any_eq_true]
 cases h:Gm.look tabN c with
 |none=>
  constructor
  ·rintro⟨q,hq,e⟩
   rw[Bool.and_eq_true,decide_eq_true_eq]at e
   have:=List.all_eq_true.1 zlp _ hq
   rw[e.1,h]at this
   cases this
  ·rintro⟨x,hx,_⟩
   cases hx
 |some s=>
  have:=of_decide_eq_true (List.all_eq_true.1 zmw _ (ZI h))
  simp only[Option.getD_some]at this⊢
  rw[this]
  constructor
  ·rintro⟨q,hq,e⟩
   rw[Bool.and_eq_true,decide_eq_true_eq,decide_eq_true_eq]at e
   exact⟨q.2,List.mem_map.2 ⟨q,List.mem_filter.2 ⟨hq,decide_eq_true e.1⟩,rfl⟩,e.2⟩
  ·rintro⟨x,hx,e⟩
   obtain⟨q,hq,rfl⟩:=List.mem_map.1 hx
   obtain⟨h1,h2⟩:=List.mem_filter.1 hq
   refine⟨q,h1,?_⟩
   rw[Bool.and_eq_true,decide_eq_true_eq]
   exact⟨of_decide_eq_true h2,decide_eq_true e⟩
end Go.Gm
namespace Go.Proofs
open Go.Gk Go.RowKit Go.Gm
theorem zbs{w:World}{l:Nat}(h:l<w.heap.size)(o:Obj):(w.putObj l o).heap[l]? =some o:=by simp[World.putObj,h]
theorem zlt{s:Bs}(h128:∀c∈s,c<128){w:World}{R:VWP}(hR:∀w',Below w.heap.size w w'->R (.int .u32 (numP s)) w'):cR 198 #[.string (bs s)] w R:=by
 refine zc.of (zec (bs s) R w ?_) λ_ _ h=>h
 refine Nw.gen λw1 e1=>?_
 have hI1:w1.heap[w.heap.size]? =some (.stringIter (bs s) 0):=by
  rw[e1]
  show(w.heap.push _)[w.heap.size]? =_
  simp
 have z1:w1.heap.size=w.heap.size+1:=by rw[e1];simp
 have b1:Below w.heap.size w w1:=by rw[e1];exact(Below.refl _ _).alloc (Nat.le_refl _) _
 clear e1
 refine zj.ghost (λj st w'=>∃k,k<=s.length/\j=s.length-k/\st=(numP (s.take k),())/\w'.heap.size=w.heap.size+1/\Below w.heap.size w w'/\w'.heap[w.heap.size]? =some (.stringIter (bs s) k)) s.length ⟨0,Nat.zero_le _,rfl,rfl,z1,b1,hI1⟩ ?_
 rintro _ _ w2 ⟨k,hk,rfl,rfl,hz,hb,hI⟩ next hnext
 refine⟨bs s,k,hI,λhlt=>?_,λhge=>?_⟩
 ·rw[yl]at hlt
  rw[zaE hlt (h128 _ (List.getElem_mem hlt))]
  dsimp only
  have hc:=Chg.iter w.heap.size w2 (bs s) (k+1)
  refine hnext (s.length-(k+1)) _ _ (by omega) ⟨k+1,hlt,rfl,?_,hc.size.trans hz,hc.below hb (Nat.le_refl _),zaF (by omega)⟩
  rw[List.take_succ_eq_append_getElem hlt]
  unfold numP
  rw[List.foldl_append]
  rfl
 ·rw[yl]at hge
  have hk:k=s.length:=by omega
  subst hk
  rw[List.take_length]
  exact hR w2 hb
theorem zk6{y:Value}{c:Int}{pb:Nat}{w:World}(hp:w.cell? (blk pb)=some (.int .u8 c))(Inv:Nat->World->Prop)(S:World->Prop)(h0:Inv 0 w)(hkeep:∀j w' w'',Inv j w'->w.heap.size<=w'.heap.size->Below w.heap.size w' w''->Inv j w'')
  (hround:∀j (hj:j<(enL c).length) w',Inv j w'->Zv Tryz.prog Tryz.fs y [.int .u32 (enL c)[j].1,.string (bs (enL c)[j].2)] w' λv w''=>((v =.bool true/\Inv (j+1) w'')\/(v =.bool false/\S w''))/\w''.heap.size=w'.heap.size/\∀b,w.heap.size<=b->w''.heap[b]? =w'.heap[b]?)
  (hend:∀w',Inv (enL c).length w'->S w'):Calls Tryz.prog 197 #[y,.pointer (some (blk pb))] w (Ret λ_ w'=>S w'):=by
 refine zdD y (blk pb) _ w ⟨c,hp,?_⟩
 refine zc.of (zaA c _ w ?_) λ_ _ h=>h
 rw[zmV]
 have hrow:=znJ c
 have hL:enL c=(enG ((Gm.look tabN c).getD [])).2.2.2:=rfl
 suffices go:∀s:Bs,s=(Gm.look tabN c).getD []->(∃x:ByteArray,Value.string (bs s) =.string x/\_) from zcy (λx hx=>go x (by rw[hx];rfl)) (λhx=>go [] (by rw[hx];rfl))
 intro s hs
 rw[<-hs]at hrow hL
 obtain⟨h128,hlen⟩:=hrow
 refine⟨bs s,rfl,?_⟩
 refine Nw.gen λw1 e1=>?_
 have hI1:w1.heap[w.heap.size]? =some (.stringIter (bs s) 0):=by
  rw[e1]
  show(w.heap.push _)[w.heap.size]? =_
  simp
 have z1:w1.heap.size=w.heap.size+1:=by rw[e1];simp
 have b1:Below w.heap.size w w1:=by rw[e1];exact(Below.refl _ _).alloc (Nat.le_refl _) _
 clear e1
 refine zj.ghost (λj st w'=>∃k,k<=s.length/\j=s.length-k/\st=((enG (s.take k)).1,bs (enG (s.take k)).2.1,(enG (s.take k)).2.2.1,())/\w.heap.size<w'.heap.size/\Inv (enG (s.take k)).2.2.2.length w'/\w'.heap[w.heap.size]? =some (.stringIter (bs s) k))
  s.length ⟨0,Nat.zero_le _,rfl,rfl,by omega,hkeep 0 w w1 h0 (Nat.le_refl _) b1,hI1⟩ ?_
 rintro _ _ w2 ⟨k,hk,rfl,rfl,hz,hIn,hI⟩ next hnext
 refine⟨bs s,k,hI,λhlt=>?_,λhge=>?_⟩
 ·rw[yl]at hlt
  have hc128:=h128 _ (List.getElem_mem hlt)
  rw[zaE hlt hc128]
  dsimp only
  have hc:=Chg.iter w.heap.size w2 (bs s) (k+1)
  have hI3:=zaF (w:=w2) (s:=bs s) (p:=k+1) (r:=w.heap.size) (by omega)
  generalize Y4 w2 w.heap.size (bs s) (k+1)=w3 at hc hI3
  have hIn3:=hkeep _ w2 w3 hIn (by omega) (hc.below (Below.refl _ _) (Nat.le_refl _))
  have hz3:=hc.size
  have htk:s.take (k+1)=s.take k++[s[k]]:=List.take_succ_eq_append_getElem hlt
  have hst:enG (s.take (k+1))=enS (enG (s.take k)) s[k]:=by rw[htk,zow]
  have hpre:=zpT s (k+1)
  have hwl:=zox (s.take k)
  rw[List.length_take]at hwl
  have hwa:=znn (s:=s.take k) (λc hc=>h128 c (List.mem_of_mem_take hc))
  rw[hst]at hpre
  have hnx:∀w',w.heap.size<w'.heap.size->Inv (enG (s.take (k+1))).2.2.2.length w'->w'.heap[w.heap.size]? =some (.stringIter (bs s) (k+1))->next ((enG (s.take (k+1))).1,bs (enG (s.take (k+1))).2.1,(enG (s.take (k+1))).2.2.1,()) w':=
   λw' h1 h2 h3=>hnext (s.length-(k+1)) _ _ (by omega) ⟨k+1,hlt,rfl,rfl,h1,h2,h3⟩
  rw[hst]at hnx
  clear hnext
  generalize enG (s.take k)=st at hnx hpre hwl hwa hIn3⊢
  obtain⟨n,word,nb,out⟩:=st
  dsimp only at hwl hwa hIn3⊢
  by_cases e:s[k]=32
  ·have e32:((s[k].toNat:Nat):Int)=32:=by rw[e];rfl
   cases nb with
   |false=>
    have hS:enS (n,word,false,out) s[k]=(numP word,[],true,out):=by unfold enS;rw[if_pos e,if_neg (by simp)]
    rw[hS]at hnx
    refine zk.cut (λst w'=>st=(numP word,())/\w.heap.size<w'.heap.size/\Inv out.length w'/\w'.heap[w.heap.size]? =some (.stringIter (bs s) (k+1))) ?_ ?_
    ·refine zE (λh=>absurd e32 h) (λ_=>zn (λ_=>?_) (λh=>by cases h))
     refine zlt hwa λw4 b4=>⟨_,rfl,rfl,?_,?_,?_⟩
     ·have:=b4.size
      omega
     ·exact hkeep _ w3 w4 hIn3 (by omega) (b4.mono (by omega))
     ·rw[b4.block _ (by omega)];exact hI3
    ·rintro⟨m,_⟩ w' ⟨h1,h2,h3,h4⟩
     cases h1
     exact hnx w' h2 h3 h4
   |true=>
    have hS:enS (n,word,true,out) s[k]=(n,[],false,out++[(n,word)]):=by unfold enS;rw[if_pos e,if_pos rfl]
    rw[hS]at hnx hpre
    dsimp only at hpre hnx
    rw[<-hL]at hpre
    have hj:out.length<(enL c).length:=by
     have:=hpre.length_le
     rw[List.length_append,List.length_singleton]at this
     omega
    have hjv:(enL c)[out.length]=(n,word):=by
     obtain⟨t,ht⟩:=hpre
     have:(enL c)[out.length]? =some (n,word):=by
      rw[<-ht]
      simp
     rw[List.getElem?_eq_getElem hj]at this
     exact Option.some.inj this
    refine zk.cut (λst w'=>st=(n,())/\w.heap.size<w'.heap.size/\Inv (out++[(n,word)]).length w'/\w'.heap[w.heap.size]? =some (.stringIter (bs s) (k+1))) ?_ ?_
    ·refine zE (λh=>absurd e32 h) (λ_=>zn (λh=>by cases h) (λ_=>?_))
     have hr:=hround out.length hj w3 hIn3
     rw[hjv]at hr
     refine Zv.mono hr λv w4 hv=>?_
     obtain⟨hv,hsz,hold⟩:=hv
     rcases hv with⟨rfl,hv⟩ | ⟨rfl,hv⟩
     ·refine⟨true,rfl,zz rfl ⟨rfl,by omega,?_,?_⟩⟩
      ·rw[List.length_append];exact hv
      ·rw[hold _ (Nat.le_refl _)];exact hI3
     ·exact⟨false,rfl,zH rfl hv⟩
    ·rintro⟨m,_⟩ w' ⟨h1,h2,h3,h4⟩
     cases h1
     exact hnx w' h2 h3 h4
  ·have hS:enS (n,word,nb,out) s[k]=(n,word++[s[k]],nb,out):=by unfold enS;rw[if_neg e]
   rw[hS]at hnx
   refine zk.cut (λ_ _=>False) ?_ (λ_ _ h=>h.elim)
   refine zE (λ_=>?_) (λh=>absurd (UInt8.toNat.inj (b:=32) (by have:((s[k].toNat:Nat):Int)=32:=h;show s[k].toNat=32;omega)) e)
   rw[zcK hc128,zjr]
   refine⟨?_,hnx w3 (by omega) hIn3 hI3⟩
   unfold zeD
   rw[yl,yl,List.length_singleton]
   omega
 ·rw[yl]at hge
  have hk:k=s.length:=by omega
  subst hk
  rw[List.take_length,<-hL]at hIn
  exact hend w2 hIn
theorem znd{c n:Int}{w:World}{R:VWP}(hR:∀s w',Below w.heap.size w w'->R (.tuple #[.string s,.bool (zgj c n)]) w'):cR 188 #[.int .u8 c,.int .u32 n] w R:=by
 refine zc.of (zf2 c n R w ?_) λ_ _ h=>h
 refine zl λw1 hN1 b1 z1=>?_
 refine zl λw2 hS2 b2 z2=>?_
 refine zl λw3 hO3 b3 z3=>?_
 have hN3:=(hN1.below b2).below b3
 have hS3:=hS2.below b3
 have hb3:=(b1.on b2).on b3
 refine zc.of (zeL c _ w3 ?_) λ_ _ h=>h
 refine zl λw4 hC4 b4 z4=>⟨_,rfl,?_⟩
 have hN4:Blk w4 w.heap.size 22 [.int .u32 n]:=hN3.below b4
 have hS4:Blk w4 w1.heap.size 9 [.string (bs [])]:=hS3.below b4
 have hO4:Blk w4 w2.heap.size 4 [.bool false]:=hO3.below b4
 have hb4:=hb3.on b4
 intro mk hy
 have hcf:Tryz.fs.contains 197=true:=by kernel_rfl
 unfold zjs
 simp only[hcf]
 generalize hw5:((w4.alloc (.deferred (some []))).alloc (mk .ready none))=w5
 have b5:Below w4.heap.size w4 w5:=by rw[<-hw5];exact zbo w4 _ _
 have z5:w5.heap.size=w4.heap.size+2:=by rw[<-hw5];exact zhf w4 _ _
 have hd5:w5.heap[w4.heap.size]? =some (.deferred (some [])):=by rw[<-hw5];exact zkn w4 _ _
 have hl5:w5.heap[w4.heap.size+1]? =some (mk .ready none):=by rw[<-hw5];exact zko w4 _ _
 clear hw5
 have fin0:∀(b:Bool) (s:ByteArray) w',Below w.heap.size w w'->Blk w' w1.heap.size 9 [.string s]->Blk w' w2.heap.size 4 [.bool b]->b=zgj c n->w'.heap[w4.heap.size]? =some (.deferred (some []))->
   Yx [w4.heap.size] w' λw13=>zx w13 (blk w1.heap.size) λx9=>ldB w13 (blk w2.heap.size) λx10=>R (.tuple #[(.string x9),(.bool x10)]) w13:=by
  intro b s w' h1 h2 h3 h4 h5
  refine zbh h5 ?_
  refine⟨s,(h2.put (by omega) _).cell0 rfl,b,(h3.put (by omega) _).cell0 rfl,?_⟩
  rw[h4]
  exact hR s _ (h1.putObj (by have:=hb4.size;omega) _)
 refine zk6 (y:=.func (.yield (w4.heap.size+1)) #[] #[]) ((hC4.below b5).cell0 rfl)
  (λj w'=>w'.heap[w4.heap.size+1]? =some (mk .ready none)/\w'.heap[w4.heap.size]? =some (.deferred (some []))/\Blk w' w.heap.size 22 [.int .u32 n]/\Blk w' w1.heap.size 9 [.string (bs [])]/\Blk w' w2.heap.size 4 [.bool false]/\
   Below w.heap.size w w'/\∀i (hi:i<(enL c).length),i<j->(enL c)[i].1≠n) _
  ⟨hl5,hd5,hN4.below b5,hS4.below b5,hO4.below b5,hb4.on b5,λi hi h=>by omega⟩ ?_ ?_ ?_
 ·rintro j w' w'' ⟨h1,h2,h3,h4,h5,h6,h7⟩ hsz hbb
  refine⟨(hbb.block _ (by omega)).trans h1,(hbb.block _ (by omega)).trans h2,h3.of_block (hbb.block _ (by omega)),h4.of_block (hbb.block _ (by omega)),h5.of_block (hbb.block _ (by omega)),h6.trans (hbb.mono (by omega)),h7⟩
 ·rintro j hj w' ⟨h1,h2,h3,h4,h5,h6,h7⟩
  refine hy ((enL c)[j].1,bs (enL c)[j].2,()) w' _ h1 ⟨h1,Nw.gen λw6 e6=>?_⟩
  have ho6:∀b,b≠w4.heap.size+1->w6.heap[b]? =w'.heap[b]?:=λb hb=>by rw[e6];exact World.putObj_heap_other hb
  have z6:w6.heap.size=w'.heap.size:=by rw[e6];simp
  have hlt':w4.heap.size+1<w'.heap.size:=(Array.getElem?_eq_some_iff.1 h1).1
  have hl6:w6.heap[w4.heap.size+1]? =some (mk .busy none):=by rw[e6];simp[World.putObj,hlt']
  have h66:Below w.heap.size w w6:=by rw[e6];exact h6.putObj (by have:=hb4.size;omega) _
  clear e6
  refine⟨n,(h3.of_block (ho6 _ (by omega))).cell0 rfl,?_⟩
  refine zm (λe=>?_) (λe=>?_)
  ·have k4:=h4.of_block (ho6 _ (by omega))
   have k5:=h5.of_block (ho6 _ (by omega))
   refine⟨k4.wr0 (by simp),Nw.gen λw7 e7=>?_⟩
   have c7:Chg w1.heap.size w6 w7:=by rw[e7];exact Chg.set w1.heap.size 0 w6 _
   have k4':Blk w7 w1.heap.size 9 [.string (bs (enL c)[j].2)]:=by rw[e7];exact k4.set0 _
   clear e7
   have k5':=c7.blk k5 (by omega)
   refine⟨k5'.wr0 (by simp),Nw.gen λw8 e8=>?_⟩
   have c8:Chg w2.heap.size w7 w8:=by rw[e8];exact Chg.set w2.heap.size 0 w7 _
   have k5'':Blk w8 w2.heap.size 4 [.bool true]:=by rw[e8];exact k5'.set0 _
   clear e8
   have k4'':=c8.blk k4' (by omega)
   have hl8:w8.heap[w4.heap.size+1]? =some (mk .busy none):=by rw[c8.block _ (by omega),c7.block _ (by omega)];exact hl6
   have b8:=c8.below (c7.below h66 (by have:=b1.size;omega)) (by have:=b1.size;have:=b2.size;omega)
   refine⟨hl8,.inr ⟨rfl,?_⟩,?_,?_⟩
   ·refine .inr ⟨?_,?_⟩
    ·exact zbs (by have:=c8.size;have:=c7.size;omega) _
    ·refine fin0 true (bs (enL c)[j].2) _ ?_ ?_ ?_ ?_ ?_
     ·exact(b8.putObj (by have:=hb4.size;omega) _).putObj (by have:=hb4.size;omega) _
     ·exact(k4''.put (by omega) _).put (by omega) _
     ·exact(k5''.put (by omega) _).put (by omega) _
     ·exact((zkT c n).2 ⟨_,List.getElem_mem hj,e⟩).symm
     ·rw[World.putObj_heap_other (by omega),World.putObj_heap_other (by omega),c8.block _ (by omega),c7.block _ (by omega),ho6 _ (by omega)]
      exact h2
   ·have:=c8.size;have:=c7.size
    simp[World.putObj]
    omega
   ·intro b hb
    rw[World.putObj_heap_other (by omega),c8.block _ (by omega),c7.block _ (by omega),ho6 _ (by omega)]
  ·refine⟨hl6,.inl ⟨rfl,?_,?_,?_,?_,?_,?_,?_⟩,?_,?_⟩
   ·exact zbs (by omega) _
   ·rw[World.putObj_heap_other (by omega),ho6 _ (by omega)];exact h2
   ·exact(h3.of_block (ho6 _ (by omega))).put (by omega) _
   ·exact(h4.of_block (ho6 _ (by omega))).put (by omega) _
   ·exact(h5.of_block (ho6 _ (by omega))).put (by omega) _
   ·exact h66.putObj (by have:=hb4.size;omega) _
   ·intro i hi hij
    by_cases e':i=j
    ·subst e';exact e
    ·exact h7 i hi (by omega)
   ·simp[World.putObj];omega
   ·intro b hb
    rw[World.putObj_heap_other (by omega),ho6 _ (by omega)]
 ·rintro w' ⟨h1,h2,h3,h4,h5,h6,h7⟩
  have hlt':w4.heap.size+1<w'.heap.size:=(Array.getElem?_eq_some_iff.1 h1).1
  refine .inl ⟨h1,?_⟩
  have k4:=h4.put (l:=w4.heap.size+1) (by omega) (mk .exhausted none)
  have k5:=h5.put (l:=w4.heap.size+1) (by omega) (mk .exhausted none)
  refine⟨k4.wr0 (by simp),Nw.gen λw7 e7=>?_⟩
  have c7:Chg w1.heap.size (w'.putObj (w4.heap.size+1) (mk .exhausted none)) w7:=by rw[e7];exact Chg.set w1.heap.size 0 _ _
  have k4':Blk w7 w1.heap.size 9 [.string (bs [])]:=by rw[e7];exact k4.set0 _
  clear e7
  have k5':=c7.blk k5 (by omega)
  refine⟨k5'.wr0 (by simp),Nw.gen λw8 e8=>?_⟩
  have c8:Chg w2.heap.size w7 w8:=by rw[e8];exact Chg.set w2.heap.size 0 w7 _
  have k5'':Blk w8 w2.heap.size 4 [.bool false]:=by rw[e8];exact k5'.set0 _
  clear e8
  refine fin0 false (bs []) w8 ?_ (c8.blk k4' (by omega)) k5'' ?_ ?_
  ·exact c8.below (c7.below (h6.putObj (by have:=hb4.size;omega) _) (by have:=b1.size;omega)) (by have:=b1.size;have:=b2.size;omega)
  ·symm
   rw[Bool.eq_false_iff]
   intro h
   obtain⟨x,hx,e⟩:=(zkT c n).1 h
   obtain⟨i,hi,rfl⟩:=List.mem_iff_getElem.1 hx
   exact h7 i hi hi e
  ·rw[c8.block _ (by omega),c7.block _ (by omega),World.putObj_heap_other (by omega)]
   exact h2
end Go.Proofs
namespace Go.Gm
open Go.Gk Go.Proofs
abbrev Fl.ty(f:Fl):Bool:=f.2.1
abbrev Fl.re(f:Fl):Bool:=f.2.2.1
def idP(must:Bool)(n bound e:Int):Int:=if must=(n !=0) then(if must=true/\bound<=n then 43 else 0) else e
def nul(s:ByteArray):Bool:=s.data.toList.contains 0
def zcd(c:Int)(a:Ag)(bound:Int):Int:=
 if c=0\/a.1≠zah c then 42
 else if (a.1=3/\a.2.1≠0)\/(a.1≠3/\a.2.2.size≠0) then 42
 else if a.1=1/\(a.2.1=0\/bound<=a.2.1) then 43
 else if a.1=4/\zgj c a.2.1=false then 31
 else if nul a.2.2=true then 13 else 0
abbrev ag0:Ag:=(0,0,bs [])
def werr(g:Fl)(al:List Ag)(bound:Int)(j:Nat):Int:=zcd (letP g j:Int) (al.getD j ag0) bound
def argK(g:Fl)(al:List Ag)(bound:Int)(k:Nat):Int:=match (List.range k).find? λj=>werr g al bound j !=0 with
 |some j=>werr g al bound j
 |none=>0
def errK(g:Fl)(ty re:Int)(al:List Ag)(bound:Int)(k:Nat):Int:=
 if idP g.ty ty bound 40≠0 then idP g.ty ty bound 40 else if idP g.re re bound 41≠0 then idP g.re re bound 41 else argK g al bound k
theorem zni(g:Fl)(al:List Ag)(bound:Int):argK g al bound 0=0:=rfl
theorem znh(g:Fl)(al:List Ag)(bound:Int)(k:Nat):argK g al bound (k+1)=if argK g al bound k=0 then werr g al bound k else argK g al bound k:=by
 unfold argK
 rw[List.range_succ,List.find?_append]
 cases h:(List.range k).find? λj=>werr g al bound j !=0 with
 |some j=>
  have:=List.find?_some h
  simp only[Option.some_or]
  rw[if_neg (by simpa using this)]
 |none=>
  simp only[Option.none_or,if_true]
  by_cases e:werr g al bound k=0
  ·simp[e]
  ·simp[e]
theorem ze0(g:Fl)(ty re:Int)(al:List Ag)(bound:Int)(k:Nat):errK g ty re al bound (k+1)=if errK g ty re al bound k=0 then werr g al bound k else errK g ty re al bound k:=by
 unfold errK
 by_cases h1:idP g.ty ty bound 40=0
 ·by_cases h2:idP g.re re bound 41=0
  ·simp only[h1,h2,ne_eq,not_true_eq_false,if_false]
   exact znh g al bound k
  ·simp[h1,h2]
 ·simp[h1]
theorem zgf{g:Fl}{al:List Ag}{bound:Int}{k:Nat}(h:argK g al bound k=0):∀j,j<k->werr g al bound j=0:=by
 intro j hj
 unfold argK at h
 split at h
 ·rename_i i hi
  have:=List.find?_some hi
  rw[h]at this
  simp at this
 ·rename_i hn
  have:=List.find?_eq_none.1 hn j (List.mem_range.2 hj)
  simpa using this
theorem zgk{g:Fl}{ty re:Int}{al:List Ag}{bound:Int}{k:Nat}(h:errK g ty re al bound k=0):idP g.ty ty bound 40=0/\idP g.re re bound 41=0/\argK g al bound k=0:=by
 unfold errK at h
 split at h
 ·rename_i h1;exact absurd h h1
 ·rename_i h1
  split at h
  ·rename_i h2;exact absurd h h2
  ·rename_i h2
   exact⟨Decidable.not_not.1 h1,Decidable.not_not.1 h2,h⟩
def YO(g:Fl)(n:Nat):Bool:=if n<g.fixed.length then false else if g.rest.length=0 then n==g.fixed.length else(n-g.fixed.length) % g.rest.length==0
def cost(a:Ag):Nat:=if a.1=3 then a.2.2.size / 4+1 else 1
def zgg(al:List Ag)(k:Nat):Nat:=((al.take k).map cost).sum
def zep(g:Fl)(al:List Ag):Nat:=1+(g.ty.toNat +g.re.toNat +zgg al al.length)
def zdU(g:Fl)(ty re:Int)(al:List Ag)(bound:Int):Int:=
 if errK g ty re al bound al.length≠0 then errK g ty re al bound al.length else if YO g al.length=false then 42 else if 65535<zep g al then 25 else 0
def zdV(op ty re:Int)(al:List Ag)(bound:Int):Int:=match frm op with
 |none=>30
 |some g=>zdU g ty re al bound
theorem zdW{op ty re:Int}{al:List Ag}{bound:Int}(h:frm op=none):zdV op ty re al bound=30:=by unfold zdV;rw[h]
theorem zdX{op ty re:Int}{al:List Ag}{bound:Int}{g:Fl}(h:frm op=some g):zdV op ty re al bound=zdU g ty re al bound:=by unfold zdV;rw[h]
theorem zix{al:List Ag}{k:Nat}(hk:k<al.length):zgg al (k+1)=zgg al k+cost al[k]:=by
 unfold zgg
 rw[List.take_succ_eq_append_getElem hk,List.map_append,List.sum_append]
 simp
def zmB(g:Fl):Bool:=!(g.rest.contains 115)&&(List.range g.fixed.length).all λi=>(List.range g.fixed.length).all λj=>!(g.fixed.getD i 0==115&&g.fixed.getD j 0==115)||i==j
theorem zlE:tabR.all (λp=>zmB p.2)=true:=by decide +kernel
theorem zlc{c:Int}(h:zah c=3):c=115:=by
 unfold zah at h
 split at h
 ·cases h
 ·split at h
  ·cases h
  ·split at h
   ·assumption
   ·split at h<;>cases h
theorem zj9{op:Int}{g:Fl}(hg:frm op=some g){k:Nat}(h:zah (letP g k:Int)=3):k<g.fixed.length/\g.fixed.getD k 0=115:=by
 have hc:=zlc h
 have ht:=List.all_eq_true.1 zlE _ (ZI (show Gm.look tabR op=some g from hg))
 simp only[zmB,Bool.and_eq_true,Bool.not_eq_true']at ht
 unfold letP at hc
 split at hc
 ·rename_i hlt
  exact⟨hlt,UInt8.toNat.inj (show(g.fixed.getD k 0).toNat=115 by omega)⟩
 ·split at hc
  ·cases hc
  ·split at hc
   ·cases hc
   ·rename_i h1 h2 h3
    have hlt:(k-g.fixed.length) % g.rest.length<g.rest.length:=Nat.mod_lt _ (by omega)
    rw[zt hlt]at hc
    have:g.rest[(k-g.fixed.length) % g.rest.length]=115:=UInt8.toNat.inj (show _=115 by omega)
    have hm:=List.getElem_mem hlt
    rw[this]at hm
    have:=List.contains_iff_mem.2 hm
    rw[ht.1]at this
    cases this
theorem znO{op:Int}{g:Fl}(hg:frm op=some g){i j:Nat}(hi:zah (letP g i:Int)=3)(hj:zah (letP g j:Int)=3):i=j:=by
 obtain⟨h1,h2⟩:=zj9 hg hi
 obtain⟨h3,h4⟩:=zj9 hg hj
 have ht:=List.all_eq_true.1 zlE _ (ZI (show Gm.look tabR op=some g from hg))
 simp only[zmB,Bool.and_eq_true]at ht
 have:=List.all_eq_true.1 (List.all_eq_true.1 ht.2 i (List.mem_range.2 h1)) j (List.mem_range.2 h3)
 rw[h2,h4]at this
 simpa using this
def tx(al:List Ag)(k:Nat):Nat:=((al.take k).map λa=>if a.1=3 then 1 else 0).sum
theorem zia{al:List Ag}{k:Nat}(hk:k<al.length):tx al (k+1)=tx al k+(if al[k].1=3 then 1 else 0):=by
 unfold tx
 rw[List.take_succ_eq_append_getElem hk,List.map_append,List.sum_append]
 simp
theorem zmZ{al:List Ag}:∀{k:Nat},k<=al.length->(∀j (hj:j<al.length),j<k->al[j].1≠3)->tx al k=0
 | 0,_,_=>by simp[tx]
 |k+1,hk,h=>by
  rw[zia (by omega),zmZ (k:=k) (by omega) (λj hj hjk=>h j hj (by omega)),if_neg (h k (by omega) (by omega))]
theorem zdb{c:Int}{a:Ag}{bound:Int}(h:zcd c a bound=0):c≠0/\a.1=zah c:=by
 unfold zcd at h
 split at h
 ·cases h
 ·rename_i h1
  constructor
  ·intro e;exact h1 (.inl e)
  ·exact Classical.byContradiction λe=>h1 (.inr e)
theorem zp9{op:Int}{g:Fl}(hg:frm op=some g){al:List Ag}{bound:Int}:∀{k:Nat},k<=al.length->(∀j,j<k->werr g al bound j=0)->tx al k<=1
 | 0,_,_=>by simp[tx]
 |k+1,hk,h=>by
  rw[zia (by omega)]
  split
  ·rename_i h3
   have hz:tx al k=0:=by
    refine zmZ (by omega) λj hj hjk e=>?_
    have a1:=(zdb (h j (by omega))).2
    have a2:=(zdb (h k (by omega))).2
    rw[zt hj]at a1
    rw[zt (by omega)]at a2
    have:=znO hg (a1.symm.trans e) (a2.symm.trans h3)
    omega
   omega
  ·have:=zp9 hg (k:=k) (by omega) λj hj=>h j (by omega)
   omega
theorem zkI{al:List Ag}(hs:∀x∈al,x.2.2.size<=9223372036854775807):∀{k:Nat},k<=al.length->zgg al k<=k+2305843009213693952*tx al k
 | 0,_=>by simp[zgg]
 |k+1,hk=>by
  have:=zkI hs (k:=k) (by omega)
  rw[zix (by omega),zia (by omega)]
  have h1:=hs _ (List.getElem_mem (show k<al.length by omega))
  unfold cost
  split<;>omega
theorem znq{op:Int}{g:Fl}(hg:frm op=some g){al:List Ag}{bound:Int}(h:∀j,j<al.length->werr g al bound j=0):(fitP op (al.map (·.1))).2=YO g al.length:=by
 have hb:∀j,j<(al.map (·.1)).length->bad g (al.map (·.1)) j=false:=by
  intro j hj
  have hj':j<al.length:=by simpa using hj
  obtain⟨h1,h2⟩:=zdb (h j hj')
  rw[zt hj']at h2
  unfold bad
  rw[zt hj,List.getElem_map,h2]
  have:=zn4 hg (k:=j) (by omega)
  simp[this]
 rw[zjy hg,zkV hb,List.length_map]
 have hz:g.rest.length=0->al.length<=g.fixed.length:=by
  intro h0
  refine Classical.byContradiction λhgt=>?_
  have:=(zdb (h g.fixed.length (by omega))).1
  apply this
  unfold letP
  rw[if_neg (by omega),if_pos h0]
  rfl
 unfold YO zby
 by_cases h1:al.length<g.fixed.length
 ·rw[if_pos h1,decide_eq_true h1,Bool.true_or,if_pos rfl]
 ·rw[if_neg h1,decide_eq_false h1,Bool.false_or]
  by_cases h2:g.rest.length=0
  ·have h3:al.length=g.fixed.length:=by have:=hz h2;omega
   rw[if_pos h2,decide_eq_false (by omega),Bool.false_and,h3]
   simp
  ·rw[if_neg h2,decide_eq_true h2,Bool.true_and]
   by_cases h3:(al.length-g.fixed.length) % g.rest.length=0
   ·rw[h3];rfl
   ·rw[decide_eq_true h3,if_pos rfl]
    exact(beq_eq_false_iff_ne.2 h3).symm
def ZQ(p:PI)(bound:Int):Int:=zdV p.1 p.2.1 p.2.2.1 p.2.2.2 bound
def zhB(p:PI):Nat:=match frm p.1 with
 |none=>0
 |some g=>zep g p.2.2.2
def totP(pl:List PI)(k:Nat):Nat:=5+((pl.take k).map zhB).sum
theorem znS{pl:List PI}{k:Nat}(hk:k<pl.length):totP pl (k+1)=totP pl k+zhB pl[k]:=by
 unfold totP
 rw[List.take_succ_eq_append_getElem hk,List.map_append,List.sum_append]
 simp
 omega
abbrev pi0:PI:=(0,0,0,[])
def badI(pl:List PI)(bound:Int)(k:Nat):Bool:=ZQ (pl.getD k pi0) bound !=0||decide (1048576<totP pl (k+1))
def zK(bound:Int)(pl:List PI):Int×Nat:=
 if bound=0\/65536<bound then(24,0) else match (List.range pl.length).find? (badI pl bound) with
  |some k=>(if ZQ (pl.getD k pi0) bound≠0 then ZQ (pl.getD k pi0) bound else 4,k)
  |none=>(0,0)
theorem zhE{bound:Int}{pl:List PI}(h:bound=0\/65536<bound):zK bound pl=(24,0):=by unfold zK;rw[if_pos h]
theorem zlB{bound:Int}{pl:List PI}(h:¬(bound=0\/65536<bound)){k:Nat}(hk:k<pl.length)(hj:∀j,j<k->badI pl bound j=false)(hf:ZQ pl[k] bound≠0):zK bound pl=(ZQ pl[k] bound,k):=by
 unfold zK
 rw[if_neg h,zbk hk (by unfold badI;rw[zt hk,bne_iff_ne.2 hf];rfl) hj]
 simp only[zt hk]
 rw[if_pos hf]
theorem zlC{bound:Int}{pl:List PI}(h:¬(bound=0\/65536<bound)){k:Nat}(hk:k<pl.length)(hj:∀j,j<k->badI pl bound j=false)(hf:ZQ pl[k] bound=0)(ht:1048576<totP pl (k+1)):zK bound pl=(4,k):=by
 unfold zK
 rw[if_neg h,zbk hk (by unfold badI;rw[decide_eq_true ht,Bool.or_true]) hj]
 simp only[zt hk]
 rw[if_neg (by rw[hf];simp)]
theorem zmA{bound:Int}{pl:List PI}(h:¬(bound=0\/65536<bound))(hj:∀j,j<pl.length->badI pl bound j=false):zK bound pl=(0,0):=by
 unfold zK
 rw[if_neg h]
 have:(List.range pl.length).find? (badI pl bound)=none:=by
  rw[List.find?_eq_none]
  intro j hj'
  rw[hj j (List.mem_range.1 hj')]
  simp
 rw[this]
theorem zlU{pl:List PI}{bound:Int}{k:Nat}(hk:k<pl.length)(hf:ZQ pl[k] bound=0)(ht:¬1048576<totP pl (k+1)):badI pl bound k=false:=by
 unfold badI
 rw[zt hk,hf,decide_eq_false ht]
 rfl
theorem zam{bound:Int}{pl:List PI}(h:(zK bound pl).1=0):¬(bound=0\/65536<bound)/\∀k (hk:k<pl.length),ZQ pl[k] bound=0:=by
 unfold zK at h
 split at h
 ·cases h
 ·rename_i hb
  refine⟨hb,λk hk=>?_⟩
  split at h
  ·rename_i j hj
   dsimp only at h
   split at h
   ·rename_i hf;exact absurd h hf
   ·cases h
  ·rename_i hn
   have:=List.find?_eq_none.1 hn k (List.mem_range.2 hk)
   unfold badI at this
   rw[zt hk]at this
   simp only[Bool.or_eq_true,not_or,bne_iff_ne,ne_eq,Decidable.not_not]at this
   exact this.1
theorem zkH(x:ByteArray):(x.toList==(BM #[]).toList)=decide (x.size=0):=by
 obtain⟨a⟩:=x
 have:=ZT (a:=a.toList)
 unfold bs at this
 rw[Array.toArray_toList]at this
 rw[this]
 simp only[ByteArray.size]
 rw[Bool.eq_iff_iff,List.isEmpty_iff,decide_eq_true_iff]
 constructor
 ·intro h;rw[<-Array.length_toList,h];rfl
 ·intro h;exact List.eq_nil_of_length_eq_zero (by rw[Array.length_toList];exact h)
end Go.Gm
namespace Go.Proofs
open Go.Gk Go.RowKit Go.Gm
def ziA(p:PI):Bool:=p.1==59&&(match p.2.2.2 with | []=>false |a::_=>a.2.1==7)
def zaB(op:Int):Nat:=match frm op with
 |some g=>g.2.2.2.2.2.2
 |none=>0
def zq(p:PI):Nat:=if ziA p then 8 else zaB p.1
theorem zpq:tabR.all (λp=>decide (p.2.2.2.2.2.2.2<=8))=true:=by decide +kernel
theorem zpp(op:Int):zaB op<=8:=by
 unfold zaB
 cases h:frm op with
 |none=>exact Nat.zero_le _
 |some g=>exact of_decide_eq_true (List.all_eq_true.1 zpq _ (ZI h))
theorem zak(p:PI):zq p<=8:=by
 unfold zq
 split
 ·exact Nat.le_refl _
 ·exact zpp _
def y8(op:Int):Bool:=decide (249<=op/\op<=255)
def kdP(p:PI):Int:=
 if zq p≠8 then 9 else if p.1=54 then 1 else if p.1=55 then 2 else if p.1=56 then 8 else if p.1=248 then 3 else if p.1=245 then 4
 else if p.1=59 then 5 else if p.1=246 then 6 else if p.1=247 then 6 else if y8 p.1=true then 7 else 0
def zaj(op ah:Int)(fi:Bool):Bool:=
 if op=54 then ah==0||ah==56
 else if op=55 then ah==54||ah==55
 else if op=248 then ah==54||ah==55||y8 ah
 else if op=56 then y8 ah
 else if ah=0\/ah=54\/ah=55\/ah=56\/y8 ah=true then false
 else if op=245 then(ah==248||ah==245)&&!fi
 else if op=59 then(ah==248||ah==59)&&fi
 else if ah=246 then op==249||op==250
 else if ah=247 then op==250||op==251
 else true
abbrev ix(pl:List PI)(k:Nat):PI:=pl.getD k pi0
def zZ(pl:List PI):Nat->Int
 | 0=>0
 |n+1=>if zq (ix pl n)=8 then(ix pl n).1 else 0
def zar(pl:List PI):Nat->Bool
 | 0=>false
 |n+1=>if (ix pl (n+1)).1=248 then(ix pl n).1==54||(ix pl n).1==55 else zar pl n
def mdlP(pl:List PI)(n:Nat):Bool:=(List.range n).any λk=>zq (ix pl k)==1
def ziM(pl:List PI)(n:Nat):Bool:=(List.range n).any λk=>decide (zq (ix pl n)<zq (ix pl k))
def mayP(pl:List PI)(n:Nat):Bool:=
 if ziM pl n=true then false
 else if zq (ix pl n)=1 then !mdlP pl n
 else if 1<zq (ix pl n)/\mdlP pl n=false then false
 else if zq (ix pl n)<8 then true
 else zaj (ix pl n).1 (zZ pl n) (zar pl (n-1))
def zbS(pl:List PI):Bool:=!mdlP pl pl.length||(decide (0<pl.length)&&zq (ix pl (pl.length-1))==8&&(ix pl (pl.length-1)).1 !=56)
def chkP(pl:List PI):Int×Nat:=match (List.range pl.length).find? (λk=>!mayP pl k) with
 |some k=>(50,k)
 |none=>if zbS pl=true then(51,pl.length) else(0,0)
def layP(bound:Int)(pl:List PI):Int×Nat:=if (zK bound pl).1≠0 then zK bound pl else chkP pl
def ZU(pl:List PI)(n:Nat):Prop:=∀k,k<n->mayP pl k=true
theorem zg1{pl:List PI}{n:Nat}:mdlP pl n=true↔∃k,k<n/\zq (ix pl k)=1:=by
 unfold mdlP
 simp[List.any_eq_true]
theorem ze8{pl:List PI}{n m:Nat}(h:mdlP pl n=true)(hnm:n<=m):mdlP pl m=true:=by
 obtain⟨k,h1,h2⟩:=zg1.1 h
 exact zg1.2 ⟨k,by omega,h2⟩
theorem zjE{pl:List PI}{n:Nat}(h:∀k,k<n->zq (ix pl k)≠1):mdlP pl n=false:=by
 cases e:mdlP pl n
 ·rfl
 ·obtain⟨k,h1,h2⟩:=zg1.1 e
  exact absurd h2 (h k h1)
theorem zjF{pl:List PI}{n:Nat}:ziM pl n=true↔∃k,k<n/\zq (ix pl n)<zq (ix pl k):=by
 unfold ziM
 simp[List.any_eq_true]
theorem zel{pl:List PI}{n k:Nat}(hk:k<n)(h:zq (ix pl n)<zq (ix pl k)):mayP pl n=false:=by
 unfold mayP
 rw[if_pos (zjF.2 ⟨k,hk,h⟩)]
theorem zls{pl:List PI}{n:Nat}(h:∀k,k<n->zq (ix pl k)<=zq (ix pl n)):¬ziM pl n=true:=λe=>by
 obtain⟨k,h1,h2⟩:=zjF.1 e
 have:=h k h1
 omega
theorem zqg{pl:List PI}{n:Nat}(h:∀k,k<n->zq (ix pl k)<=zq (ix pl n))(h1:zq (ix pl n)=1->mdlP pl n=false)(h2:1<zq (ix pl n)->mdlP pl n=true)(h8:zq (ix pl n)<8) :
  mayP pl n=true:=by
 unfold mayP
 rw[if_neg (zls h)]
 by_cases e:zq (ix pl n)=1
 ·rw[if_pos e,h1 e]
  rfl
 ·rw[if_neg e,if_neg (λ⟨g1,g2⟩=>by rw[h2 g1]at g2;cases g2),if_pos h8]
theorem zll{pl:List PI}{n:Nat}(h:mdlP pl n=false)(h1:1<zq (ix pl n)):mayP pl n=false:=by
 unfold mayP
 by_cases e:ziM pl n=true
 ·rw[if_pos e]
 ·rw[if_neg e,if_neg (by omega),if_pos ⟨h1,h⟩]
theorem znB{pl:List PI}{n:Nat}(h:mdlP pl n=true)(h1:zq (ix pl n)=1):mayP pl n=false:=by
 unfold mayP
 by_cases e:ziM pl n=true
 ·rw[if_pos e]
 ·rw[if_neg e,if_pos h1,h]
  rfl
theorem ze7{pl:List PI}{n:Nat}(h:mdlP pl n=true)(h8:zq (ix pl n)=8):mayP pl n=zaj (ix pl n).1 (zZ pl n) (zar pl (n-1)):=by
 unfold mayP
 rw[if_neg (zls λk hk=>by rw[h8];exact zak _),if_neg (by omega),if_neg (λ⟨_,g⟩=>by rw[h]at g;cases g),if_neg (by omega)]
theorem ZU.step{pl:List PI}{n:Nat}(h:ZU pl n)(hn:mayP pl n=true):ZU pl (n+1):=λk hk=>by
 by_cases e:k=n
 ·subst e;exact hn
 ·exact h k (by omega)
theorem zpM{pl:List PI}{n:Nat}(hg:ZU pl n)(hn:n<pl.length)(hm:mayP pl n=false):chkP pl=(50,n):=by
 unfold chkP
 rw[zbk hn (by rw[hm];rfl) λj hj=>by rw[hg j hj];rfl]
theorem zmI{pl:List PI}(hg:ZU pl pl.length):chkP pl=if zbS pl=true then(51,pl.length) else(0,0):=by
 unfold chkP
 have:(List.range pl.length).find? (λk=>!mayP pl k)=none:=by
  rw[List.find?_eq_none]
  intro j hj
  rw[hg j (List.mem_range.1 hj)]
  simp
 rw[this]
def zcl(pl:List PI)(n:Nat):Prop:=n<=pl.length/\ZU pl n/\(n<pl.length->mayP pl n=false)/\(n=pl.length->zbS pl=true)
theorem zcl.chk{pl:List PI}{n:Nat}(h:zcl pl n):chkP pl=(if n<pl.length then 50 else 51,n):=by
 obtain⟨h1,h2,h3,h4⟩:=h
 by_cases e:n<pl.length
 ·rw[if_pos e]
  exact zpM h2 e (h3 e)
 ·have:n=pl.length:=by omega
  subst this
  rw[if_neg e,zmI h2,if_pos (h4 rfl)]
theorem zkz{pl:List PI}(h:mdlP pl pl.length=false):zbS pl=true:=by
 unfold zbS
 rw[h]
 rfl
structure InvT (pl:List PI) (p n:Nat):Prop where
 le:n<=pl.length
 good:ZU pl n
 low:∀k,k<n->zq (ix pl k)<p
 mdl:2<=p->mdlP pl n=true
 stuck:n<pl.length->zq (ix pl n)<p->mayP pl n=false
theorem InvT.zero(pl:List PI):InvT pl 0 0:=⟨Nat.zero_le _,λk hk=>by omega,λk hk=>by omega,λh=>by omega,λ_ h=>by omega⟩
structure InvP (pl:List PI) (p from' n:Nat):Prop where
 le:n<=pl.length
 lo:from'<=n
 good:ZU pl n
 own:∀k,from'<=k->k<n->zq (ix pl k)=p
 one:p=1->n=from'
theorem InvT.into{pl:List PI}{p n:Nat}(h:InvT pl p n):InvP pl p n n:=⟨h.le,Nat.le_refl _,h.good,λk h1 h2=>by omega,λ_=>rfl⟩
theorem InvP.may{pl:List PI}{p f n:Nat}(h:InvP pl p f n)(hT:InvT pl p f)(hp8:p<8)(hpart:zq (ix pl n)=p):mayP pl n=true:=by
 refine zqg (λk hk=>?_) (λe=>?_) (λe=>?_) (by omega)
 ·rw[hpart]
  by_cases hkf:k<f
  ·exact Nat.le_of_lt (hT.low k hkf)
  ·exact Nat.le_of_eq (h.own k (by omega) hk)
 ·have hp1:p=1:=by omega
  have hnf:=h.one hp1
  refine zjE λk hk=>?_
  have:=hT.low k (by omega)
  omega
 ·exact ze8 (hT.mdl (by omega)) h.lo
theorem InvP.step{pl:List PI}{p f n:Nat}(h:InvP pl p f n)(hT:InvT pl p f)(hp8:p<8)(hn:n<pl.length)(hpart:zq (ix pl n)=p)(h1:p≠1):InvP pl p f (n+1):=
 ⟨by omega,by have:=h.lo;omega,h.good.step (h.may hT hp8 hpart),λk k1 k2=>by
  by_cases e:k=n
  ·subst e;exact hpart
  ·exact h.own k k1 (by omega),λe=>absurd e h1⟩
theorem InvP.out{pl:List PI}{p f n:Nat}(h:InvP pl p f n)(hT:InvT pl p f)(h1:p≠1)(hne:n<pl.length->zq (ix pl n)≠p):InvT pl (p+1) n:=
 ⟨h.le,h.good,λk hk=>by
  by_cases hkf:k<f
  ·have:=hT.low k hkf;omega
  ·have:=h.own k (by omega) hk;omega,λh2=>ze8 (hT.mdl (by omega)) h.lo,λhn hlt=>by
  by_cases e:n=f
  ·subst e
   exact hT.stuck hn (by have:=hne hn;omega)
  ·refine zel (k:=n-1) (by have:=h.lo;omega) ?_
   rw[h.own (n-1) (by have:=h.lo;omega) (by have:=h.lo;omega)]
   have:=hne hn
   omega⟩
theorem InvT.model{pl:List PI}{n:Nat}(hT:InvT pl 1 n)(hn:n<pl.length)(hpart:zq (ix pl n)=1):InvT pl 2 (n+1):=by
 have hm:mdlP pl (n+1)=true:=zg1.2 ⟨n,by omega,hpart⟩
 refine⟨by omega,hT.good.step (hT.into.may hT (by omega) hpart),λk hk=>?_,λ_=>hm,λh1 h2=>?_⟩
 ·by_cases e:k=n
  ·subst e;omega
  ·have:=hT.low k (by omega);omega
 ·rcases Nat.lt_or_ge (zq (ix pl (n+1))) 1 with h |h
  ·exact zel (k:=n) (by omega) (by omega)
  ·exact znB hm (by omega)
theorem InvT.nomodel{pl:List PI}{n:Nat}(hT:InvT pl 1 n)(hne:n<pl.length->zq (ix pl n)≠1):zcl pl n:=by
 have hm:mdlP pl n=false:=zjE λk hk=>by have:=hT.low k hk;omega
 refine⟨hT.le,hT.good,λhn=>?_,λe=>?_⟩
 ·rcases Nat.lt_or_ge (zq (ix pl n)) 1 with h |h
  ·exact hT.stuck hn h
  ·exact zll hm (by have:=hne hn;omega)
 ·subst e
  exact zkz hm
structure InvO (pl:List PI) (n:Nat):Prop where
 le:n<=pl.length
 good:ZU pl n
 mdl:mdlP pl n=true
 ah:zZ pl n=0\/zZ pl n=56
 stuck:n<pl.length->zq (ix pl n)≠8->mayP pl n=false
 shut:n=pl.length->zbS pl=false
theorem zbf{pl:List PI}{n:Nat}(h:zq (ix pl n)=8):zZ pl (n+1)=(ix pl n).1:=if_pos h
theorem InvT.fun{pl:List PI}{n:Nat}(h:InvT pl 8 n):InvO pl n:=by
 have h0:zZ pl n=0:=by
  cases n with
  |zero=>rfl
  |succ m=>exact if_neg (by have:=h.low m (by omega);omega)
 refine⟨h.le,h.good,h.mdl (by omega),.inl h0,λhn h8=>h.stuck hn (by have:=zak (ix pl n);omega),λe=>?_⟩
 subst e
 unfold zbS
 rw[h.mdl (by omega)]
 cases hl:pl.length with
 |zero=>rfl
 |succ m=>
  have:=h.low m (by omega)
  rw[Nat.add_sub_cancel,beq_eq_false_iff_ne.2 (show zq (ix pl m)≠8 by omega)]
  simp
structure InvF (pl:List PI) (n:Nat) (ah:Int):Prop where
 le:n<=pl.length
 good:ZU pl n
 mdl:mdlP pl n=true
 pos:0<n
 part:zq (ix pl (n-1))=8
 op:(ix pl (n-1)).1=ah
theorem InvF.ah{pl:List PI}{n:Nat}{ah:Int}(h:InvF pl n ah):zZ pl n=ah:=by
 obtain⟨m,rfl⟩:∃m,n=m+1:=⟨n-1,by have:=h.pos;omega⟩
 have:=zbf (n:=m) h.part
 rw[this]
 exact h.op
theorem InvF.step{pl:List PI}{n:Nat}{ah:Int}(h:InvF pl n ah)(hn:n<pl.length)(h8:zq (ix pl n)=8)(hm:zaj (ix pl n).1 ah (zar pl (n-1))=true):InvF pl (n+1) (ix pl n).1:=
 ⟨by omega,h.good.step (by rw[ze7 h.mdl h8,h.ah];exact hm),ze8 h.mdl (by omega),by omega,h8,rfl⟩
theorem InvF.bad{pl:List PI}{n:Nat}{ah:Int}(h:InvF pl n ah)(h56:ah≠56)(hb:n<pl.length->zq (ix pl n)=8->zaj (ix pl n).1 ah (zar pl (n-1))=false):zcl pl n:=by
 refine⟨h.le,h.good,λhn=>?_,λe=>?_⟩
 ·by_cases h8:zq (ix pl n)=8
  ·rw[ze7 h.mdl h8,h.ah]
   exact hb hn h8
  ·refine zel (k:=n-1) (by have:=h.pos;omega) ?_
   rw[h.part]
   have:=zak (ix pl n)
   omega
 ·subst e
  unfold zbS
  rw[h.part,h.op,h.mdl]
  have:=h.pos
  simp[this,h56]
theorem InvF.end{pl:List PI}{n:Nat}(h:InvF pl n 56):InvO pl n:=by
 refine⟨h.le,h.good,h.mdl,.inr h.ah,λhn h8=>?_,λe=>?_⟩
 ·refine zel (k:=n-1) (by have:=h.pos;omega) ?_
  rw[h.part]
  have:=zak (ix pl n)
  omega
 ·subst e
  unfold zbS
  rw[h.part,h.op,h.mdl]
  simp
theorem InvO.begin{pl:List PI}{n:Nat}(h:InvO pl n)(hn:n<pl.length)(h8:zq (ix pl n)=8)(hop:(ix pl n).1=54):InvF pl (n+1) 54:=by
 refine⟨by omega,h.good.step ?_,ze8 h.mdl (by omega),by omega,h8,hop⟩
 rw[ze7 h.mdl h8,hop]
 rcases h.ah with e |e<;>rw[e]<;>rfl
theorem InvO.bad{pl:List PI}{n:Nat}(h:InvO pl n)(hn:n<pl.length)(hk:kdP (ix pl n)≠1):zcl pl n:=by
 refine⟨h.le,h.good,λ_=>?_,λe=>by omega⟩
 by_cases h8:zq (ix pl n)=8
 ·rw[ze7 h.mdl h8]
  have hop:(ix pl n).1≠54:=λe=>hk (by unfold kdP;rw[if_neg (λhh=>hh h8),if_pos e])
  have:zZ pl n=0\/zZ pl n=54\/zZ pl n=55\/zZ pl n=56\/y8 (zZ pl n)=true:=by rcases h.ah with e |e<;>simp[e]
  unfold zaj
  rw[if_neg hop]
  by_cases e1:(ix pl n).1=55
  ·rw[if_pos e1];rcases h.ah with e |e<;>rw[e]<;>rfl
  ·rw[if_neg e1]
   by_cases e2:(ix pl n).1=248
   ·rw[if_pos e2];rcases h.ah with e |e<;>rw[e]<;>rfl
   ·rw[if_neg e2]
    by_cases e3:(ix pl n).1=56
    ·rw[if_pos e3];rcases h.ah with e |e<;>rw[e]<;>rfl
    ·rw[if_neg e3,if_pos this]
 ·exact h.stuck hn h8
end Go.Proofs
namespace Go.Proofs
open Go.Gk Go.RowKit Go.Gm
theorem Zk{p:PI}(h:kdP p≠9):zq p=8:=by
 unfold kdP at h
 by_cases e:zq p=8
 ·exact e
 ·rw[if_pos e]at h;exact absurd rfl h
theorem zqx{p:PI}(h8:zq p=8):kdP p=(if p.1=54 then 1 else if p.1=55 then 2 else if p.1=56 then 8 else if p.1=248 then 3 else if p.1=245 then 4
 else if p.1=59 then 5 else if p.1=246 then 6 else if p.1=247 then 6 else if y8 p.1=true then 7 else 0):=by
 unfold kdP
 rw[if_neg (λg=>g h8)]
theorem zbj{op:Int}:y8 op=true↔249<=op/\op<=255:=by unfold y8;exact decide_eq_true_iff
theorem zfz{op:Int}:y8 op=false↔¬(249<=op/\op<=255):=by unfold y8;exact decide_eq_false_iff_not
theorem yZ{p:PI}(h8:zq p=8):(kdP p=1↔p.1=54)/\(kdP p=2↔p.1=55)/\(kdP p=8↔p.1=56)/\(kdP p=3↔p.1=248)/\(kdP p=4↔p.1=245)/\(kdP p=5↔p.1=59)/\
  (kdP p=6↔p.1=246\/p.1=247)/\(kdP p=7↔249<=p.1/\p.1<=255)/\kdP p≠9:=by
 rw[zqx h8]
 simp only[zbj]
 repeat' split
 all_goals omega
def mayI(mg en:Int):Bool:=if en=251 then mg==247 else if en=249 then mg==246 else if en=250 then true else false
structure znW (ah:Int):Prop where
 ne:ah≠0/\ah≠54/\ah≠55/\ah≠56/\ah≠246/\ah≠247
 en:¬(249<=ah/\ah<=255)
theorem zaM{op ah:Int}{F:Bool}(h:znW ah):zaj op ah F=(if op=54\/op=55\/op=248\/op=56 then false else if op=245 then(ah==248||ah==245)&&!F else if op=59 then(ah==248||ah==59)&&F else true):=by
 obtain⟨⟨h0,h1,h2,h3,h4,h5⟩,h6⟩:=h
 have h6':=zfz.2 h6
 have no:∀{c:Int},ah≠c->(ah==c)=false:=λh=>beq_eq_false_iff_ne.2 h
 unfold zaj
 by_cases e1:op=54
 ·rw[if_pos e1,if_pos (.inl e1),no h0,no h3];rfl
 rw[if_neg e1]
 by_cases e2:op=55
 ·rw[if_pos e2,if_pos (.inr (.inl e2)),no h1,no h2];rfl
 rw[if_neg e2]
 by_cases e3:op=248
 ·rw[if_pos e3,if_pos (.inr (.inr (.inl e3))),no h1,no h2,h6'];rfl
 rw[if_neg e3]
 by_cases e4:op=56
 ·rw[if_pos e4,if_pos (.inr (.inr (.inr e4))),h6']
 rw[if_neg e4,if_neg (by rw[h6'];rintro(e |e |e |e |e)<;>first |exact absurd e (by assumption) |cases e),if_neg (c:=op=54\/op=55\/op=248\/op=56) (by omega),if_neg h4,if_neg h5]
theorem zh8{op ah:Int}{F:Bool}(h:ah=246\/ah=247):zaj op ah F=mayI ah op:=by
 have he:y8 ah=false:=zfz.2 (by omega)
 have no:∀{c:Int},ah≠c->(ah==c)=false:=λh=>beq_eq_false_iff_ne.2 h
 unfold zaj mayI
 by_cases e1:op=54
 ·rw[if_pos e1,no (by omega),no (by omega)];subst e1;rfl
 rw[if_neg e1]
 by_cases e2:op=55
 ·rw[if_pos e2,no (by omega),no (by omega)];subst e2;rfl
 rw[if_neg e2]
 by_cases e3:op=248
 ·rw[if_pos e3,no (by omega),no (by omega),he];subst e3;rfl
 rw[if_neg e3]
 by_cases e4:op=56
 ·rw[if_pos e4,he];subst e4;rfl
 rw[if_neg e4,if_neg (by rw[he];rintro(e |e |e |e |e)<;>first |omega |cases e)]
 by_cases e5:op=245
 ·rw[if_pos e5,no (by omega),no (by omega)];subst e5;rfl
 rw[if_neg e5]
 by_cases e6:op=59
 ·rw[if_pos e6,no (by omega),no (by omega)];subst e6;rfl
 rw[if_neg e6]
 rcases h with h |h
 ·rw[if_pos h]
  by_cases e7:op=249
  ·subst e7;subst h;rfl
  by_cases e8:op=250
  ·subst e8;subst h;rfl
  rw[if_neg e7,if_neg e8,beq_eq_false_iff_ne.2 e7,beq_eq_false_iff_ne.2 e8]
  by_cases e9:op=251
  ·rw[if_pos e9,h];rfl
  ·rw[if_neg e9];rfl
 ·rw[if_neg (by omega),if_pos h]
  by_cases e7:op=251
  ·subst e7;subst h;rfl
  by_cases e8:op=250
  ·subst e8;subst h;rfl
  rw[if_neg e7,if_neg e8,beq_eq_false_iff_ne.2 e7,beq_eq_false_iff_ne.2 e8]
  by_cases e9:op=249
  ·rw[if_pos e9,h];rfl
  ·rw[if_neg e9];rfl
variable {pl:List PI} {n:Nat} {ah:Int} {F:Bool}
theorem zme(hn:0<n)(h:(ix pl n).1≠248):zar pl n=zar pl (n-1):=by
 obtain⟨m,rfl⟩:∃m,n=m+1:=⟨n-1,by omega⟩
 exact if_neg h
theorem InvF.param(h:InvF pl n ah)(ha:ah=54\/ah=55)(hn:n<pl.length)(hk:kdP (ix pl n)=2):InvF pl (n+1) 55:=by
 have h8:=Zk (p:=ix pl n) (by omega)
 have hop:=((yZ h8).2.1).1 hk
 have:=h.step hn h8 (by rw[hop];rcases ha with e |e<;>rw[e]<;>rfl)
 rwa[hop]at this
theorem InvF.noblock(h:InvF pl n ah)(ha:ah=54\/ah=55)(h2:n<pl.length->kdP (ix pl n)≠2)(h3:n<pl.length->kdP (ix pl n)≠3):zcl pl n:=by
 refine h.bad (by omega) λhn h8=>?_
 have hk:=yZ h8
 have h2:=h2 hn
 have h3:=h3 hn
 have e2:(ix pl n).1≠55:=λe=>h2 (hk.2.1.2 e)
 have e3:(ix pl n).1≠248:=λe=>h3 (hk.2.2.2.1.2 e)
 unfold zaj
 by_cases e1:(ix pl n).1=54
 ·rw[if_pos e1];rcases ha with e |e<;>rw[e]<;>rfl
 rw[if_neg e1,if_neg e2,if_neg e3]
 by_cases e4:(ix pl n).1=56
 ·rw[if_pos e4];rcases ha with e |e<;>rw[e]<;>rfl
 rw[if_neg e4,if_pos (by omega)]
theorem InvF.noend(h:InvF pl n ah)(ha:249<=ah/\ah<=255)(h3:n<pl.length->kdP (ix pl n)≠3)(h8':n<pl.length->kdP (ix pl n)≠8):zcl pl n:=by
 refine h.bad (by omega) λhn h8=>?_
 have hk:=yZ h8
 have h3:=h3 hn
 have h8':=h8' hn
 have e3:(ix pl n).1≠248:=λe=>h3 (hk.2.2.2.1.2 e)
 have e4:(ix pl n).1≠56:=λe=>h8' (hk.2.2.1.2 e)
 have no:∀{c:Int},ah≠c->(ah==c)=false:=λh=>beq_eq_false_iff_ne.2 h
 unfold zaj
 by_cases e1:(ix pl n).1=54
 ·rw[if_pos e1,no (by omega),no (by omega)];rfl
 rw[if_neg e1]
 by_cases e2:(ix pl n).1=55
 ·rw[if_pos e2,no (by omega),no (by omega)];rfl
 rw[if_neg e2,if_neg e3,if_neg e4,if_pos (.inr (.inr (.inr (.inr (zbj.2 ha)))))]
theorem InvF.shut(h:InvF pl n ah)(ha:249<=ah/\ah<=255)(hn:n<pl.length)(hk:kdP (ix pl n)=8):InvF pl (n+1) 56:=by
 have h8:=Zk (p:=ix pl n) (by omega)
 have hop:=((yZ h8).2.2.1).1 hk
 have:=h.step hn h8 (by rw[hop];exact zbj.2 ha)
 rwa[hop]at this
structure InvB (pl:List PI) (n:Nat) (F:Bool) (ah:Int):Prop where
 f:InvF pl n ah
 fi:zar pl (n-1)=F
 op:znW ah
theorem InvF.label(h:InvF pl n ah)(ha:(ah=54\/ah=55)\/(249<=ah/\ah<=255))(hn:n<pl.length)(hk:kdP (ix pl n)=3):InvB pl (n+1) (ah==54||ah==55) 248:=by
 have h8:=Zk (p:=ix pl n) (by omega)
 have hop:=((yZ h8).2.2.2.1).1 hk
 have hs:=h.step hn h8 (by
  rw[hop]
  rcases ha with(e |e) |e
  ·rw[e];rfl
  ·rw[e];rfl
  ·unfold zaj
   rw[if_neg (by omega),if_neg (by omega),if_pos rfl,zbj.2 e,Bool.or_true])
 rw[hop]at hs
 refine⟨hs,?_,⟨⟨by decide,by decide,by decide,by decide,by decide,by decide⟩,by decide⟩⟩
 rw[Nat.add_sub_cancel]
 obtain⟨m,rfl⟩:∃m,n=m+1:=⟨n-1,by have:=h.pos;omega⟩
 have:zar pl (m+1)=((ix pl m).1==54||(ix pl m).1==55):=if_pos hop
 rw[this]
 have hah:(ix pl m).1=ah:=h.op
 rw[hah]
theorem InvB.go(h:InvB pl n F ah)(hn:n<pl.length)(h8:zq (ix pl n)=8)(hm:zaj (ix pl n).1 ah F=true):InvF pl (n+1) (ix pl n).1:=h.f.step hn h8 (by rw[h.fi];exact hm)
theorem InvB.next(h:InvB pl n F ah)(hn:n<pl.length)(h8:zq (ix pl n)=8)(hm:zaj (ix pl n).1 ah F=true)(hop:znW (ix pl n).1)(h248:(ix pl n).1≠248):InvB pl (n+1) F (ix pl n).1:=
 ⟨h.go hn h8 hm,by rw[Nat.add_sub_cancel,zme h.f.pos h248];exact h.fi,hop⟩
theorem InvB.local(h:InvB pl n true ah)(ha:ah=248\/ah=59)(hn:n<pl.length)(hk:kdP (ix pl n)=5):InvB pl (n+1) true 59:=by
 have h8:=Zk (p:=ix pl n) (by omega)
 have hop:=((yZ h8).2.2.2.2.2.1).1 hk
 have:=h.next hn h8 (by rw[zaM h.op,hop];rcases ha with e |e<;>rw[e]<;>rfl) (by rw[hop];exact⟨⟨by decide,by decide,by decide,by decide,by decide,by decide⟩,by decide⟩) (by omega)
 rwa[hop]at this
theorem InvB.phi(h:InvB pl n false ah)(ha:ah=248\/ah=245)(hn:n<pl.length)(hk:kdP (ix pl n)=4):InvB pl (n+1) false 245:=by
 have h8:=Zk (p:=ix pl n) (by omega)
 have hop:=((yZ h8).2.2.2.2.1).1 hk
 have:=h.next hn h8 (by rw[zaM h.op,hop];rcases ha with e |e<;>rw[e]<;>rfl) (by rw[hop];exact⟨⟨by decide,by decide,by decide,by decide,by decide,by decide⟩,by decide⟩) (by omega)
 rwa[hop]at this
theorem zpm{p:PI}(h8:zq p=8):p.1≠0:=by
 intro e
 unfold zq at h8
 have hv:ziA p=false:=by unfold ziA;rw[e];rfl
 rw[hv,e]at h8
 exact absurd h8 (by decide +kernel)
theorem InvB.plain(h:InvB pl n F ah)(hn:n<pl.length)(hk:kdP (ix pl n)=0):InvB pl (n+1) F (ix pl n).1/\(ix pl n).1≠248/\(ix pl n).1≠245/\(ix pl n).1≠59:=by
 have h8:=Zk (p:=ix pl n) (by omega)
 have hk':=yZ h8
 rw[hk]at hk'
 obtain⟨k1,k2,k3,k4,k5,k6,k7,k8,_⟩:=hk'
 have h0:=zpm h8
 refine⟨h.next hn h8 ?_ ⟨by omega,by omega⟩ (by omega),by omega,by omega,by omega⟩
 rw[zaM h.op,if_neg (by omega),if_neg (by omega),if_neg (by omega)]
theorem InvB.merge(h:InvB pl n F ah)(hn:n<pl.length)(hk:kdP (ix pl n)=6):InvF pl (n+1) (ix pl n).1/\((ix pl n).1=246\/(ix pl n).1=247):=by
 have h8:=Zk (p:=ix pl n) (by omega)
 have hop:=((yZ h8).2.2.2.2.2.2.1).1 hk
 refine⟨h.go hn h8 ?_,hop⟩
 rw[zaM h.op,if_neg (by omega),if_neg (by omega),if_neg (by omega)]
theorem InvB.ender(h:InvB pl n F ah)(hn:n<pl.length)(hk:kdP (ix pl n)=7):InvF pl (n+1) (ix pl n).1/\249<=(ix pl n).1/\(ix pl n).1<=255:=by
 have h8:=Zk (p:=ix pl n) (by omega)
 have hop:=((yZ h8).2.2.2.2.2.2.2.1).1 hk
 refine⟨h.go hn h8 ?_,hop⟩
 rw[zaM h.op,if_neg (by omega),if_neg (by omega),if_neg (by omega)]
theorem InvF.mender(h:InvF pl n ah)(ha:ah=246\/ah=247)(hn:n<pl.length)(hk:kdP (ix pl n)=7)(hm:mayI ah (ix pl n).1=true):InvF pl (n+1) (ix pl n).1/\249<=(ix pl n).1/\(ix pl n).1<=255:=by
 have h8:=Zk (p:=ix pl n) (by omega)
 have hop:=((yZ h8).2.2.2.2.2.2.2.1).1 hk
 exact⟨h.step hn h8 (by rw[zh8 ha];exact hm),hop⟩
theorem InvF.mbad(h:InvF pl n ah)(ha:ah=246\/ah=247)(hb:n<pl.length->kdP (ix pl n)=7->mayI ah (ix pl n).1=false):zcl pl n:=by
 refine h.bad (by omega) λhn h8=>?_
 rw[zh8 ha]
 by_cases hk:kdP (ix pl n)=7
 ·exact hb hn hk
 ·have h7:=(yZ h8).2.2.2.2.2.2.2.1
  unfold mayI
  rw[if_neg (by omega),if_neg (by omega),if_neg (by omega)]
theorem InvB.bad(h:InvB pl n F ah)(h0:n<pl.length->kdP (ix pl n)≠0/\kdP (ix pl n)≠6/\kdP (ix pl n)≠7)(h4:n<pl.length->kdP (ix pl n)=4->F=false->ah≠248/\ah≠245)
  (h5:n<pl.length->kdP (ix pl n)=5->F=true->ah≠248/\ah≠59):zcl pl n:=by
 refine h.f.bad (by have:=h.op.ne;omega) λhn h8=>?_
 obtain⟨q0,q6,q7⟩:=h0 hn
 have h4:=h4 hn
 have h5:=h5 hn
 have no:∀{c:Int},ah≠c->(ah==c)=false:=λh=>beq_eq_false_iff_ne.2 h
 rw[h.fi,zaM h.op]
 obtain⟨k1,k2,k3,k4,k5,k6,k7,k8,k9⟩:=yZ h8
 by_cases e:(ix pl n).1=54\/(ix pl n).1=55\/(ix pl n).1=248\/(ix pl n).1=56
 ·rw[if_pos e]
 rw[if_neg e]
 by_cases e4:(ix pl n).1=245
 ·rw[if_pos e4]
  cases F
  ·obtain⟨g1,g2⟩:=h4 (k5.2 e4) rfl
   rw[no g1,no g2];rfl
  ·simp
 rw[if_neg e4]
 by_cases e5:(ix pl n).1=59
 ·rw[if_pos e5]
  cases F
  ·simp
  ·obtain⟨g1,g2⟩:=h5 (k6.2 e5) rfl
   rw[no g1,no g2];rfl
 exfalso
 refine q0 ?_
 rw[zqx h8,if_neg (by omega),if_neg (by omega),if_neg (by omega),if_neg (by omega),if_neg e4,if_neg e5,if_neg (by omega),if_neg (by omega),if_neg (λg=>by have:=zbj.1 g;omega)]
structure FnL where
 id:Int
 at_:Int
 en:Int
 ps:List Int
 bk:List (Int×Int×Int)
def modL{α:Type}(f:α->α):List α->List α
 | []=>[]
 | [x]=>[f x]
 |x::y::r=>x::modL f (y::r)
theorem yD{α:Type}(f:α->α)(x:α):∀l:List α,modL f (l++[x])=l++[f x]
 | []=>rfl
 | [y]=>rfl
 |y::z::r=>by
  have:=yD f x (z::r)
  simp only[List.cons_append,modL]at this⊢
  rw[this]
def cutS(l:List FnL)(k:Nat)(p:PI):List FnL:=
 if p.1=54 then l++[⟨p.2.2.1,k,0,[],[]⟩]
 else if p.1=55 then modL (λf=>{f with ps:=f.ps++[(k:Int)]}) l
 else if p.1=56 then modL (λf=>{f with en:=k}) l
 else if p.1=248 then modL (λf=>{f with bk:=f.bk++[(p.2.2.1,(k:Int),0)]}) l
 else if y8 p.1=true then modL (λf=>{f with bk:=modL (λb=>(b.1,b.2.1,(k:Int)+1)) f.bk}) l
 else l
def cutF(pl:List PI):Nat->List FnL
 | 0=>[]
 |n+1=>cutS (cutF pl n) n (ix pl n)
theorem zqO:zaB 54=8/\zaB 55=8/\zaB 56=8/\zaB 248=8/\zaB 249=8/\zaB 250=8/\zaB 251=8/\zaB 252=8/\zaB 253=8/\zaB 254=8/\zaB 255=8:=by decide +kernel
theorem ziy{p:PI}(h:zq p≠8\/kdP p=0\/kdP p=4\/kdP p=5\/kdP p=6)(l:List FnL)(k:Nat):cutS l k p=l:=by
 have hno:¬(p.1=54\/p.1=55\/p.1=56\/p.1=248\/(249<=p.1/\p.1<=255)):=by
  intro hop
  have h8:zq p=8:=by
   unfold zq
   split
   ·rfl
   ·obtain⟨q1,q2,q3,q4,q5,q6,q7,q8,q9,q10,q11⟩:=zqO
    have hc:p.1=54\/p.1=55\/p.1=56\/p.1=248\/p.1=249\/p.1=250\/p.1=251\/p.1=252\/p.1=253\/p.1=254\/p.1=255:=by omega
    rcases hc with e |e |e |e |e |e |e |e |e |e |e<;>rw[e]<;>assumption
  obtain⟨k1,k2,k3,k4,k5,k6,k7,k8,k9⟩:=yZ h8
  rcases h with h |h |h |h |h
  ·exact h h8
  all_goals omega
 unfold cutS
 rw[if_neg (by omega),if_neg (by omega),if_neg (by omega),if_neg (by omega),if_neg (λe=>hno (by have:=zbj.1 e;omega))]
def Z2(pl:List PI)(p n:Nat)(ps:List Int):Prop:=
 ∀q,q<p->0<=ps.getD (2*q) 0/\ps.getD (2*q) 0<=ps.getD (2*q+1) 0/\ps.getD (2*q+1) 0<=n/\∀i,i<n->((ps.getD (2*q) 0<=(i:Int)/\(i:Int)<ps.getD (2*q+1) 0)↔zq (ix pl i)=q)
theorem zj1{ps:List Int}{i j:Nat}{a b:Int}(hi:i+1<ps.length):((ps.set i a).set (i+1) b).getD j 0=if j=i then a else if j=i+1 then b else ps.getD j 0:=by
 simp only[List.getD_eq_getElem?_getD]
 by_cases e:j=i+1
 ·subst e
  rw[List.getElem?_set_self (by simpa using hi),if_neg (by omega),if_pos rfl]
  rfl
 ·rw[List.getElem?_set_ne (λh=>e h.symm)]
  by_cases e2:j=i
  ·subst e2
   rw[List.getElem?_set_self (by omega),if_pos rfl]
   rfl
  ·rw[List.getElem?_set_ne (λh=>e2 h.symm),if_neg e2,if_neg e]
theorem Z2.step{p f n':Nat}{ps:List Int}(h:Z2 pl p f ps)(hps:ps.length=20)(hp:p<10)(hfn:f<=n')(hlow:∀k,k<f->zq (ix pl k)<p)(hown:∀k,f<=k->k<n'->zq (ix pl k)=p) :
  Z2 pl (p+1) n' ((ps.set (2*p) f).set (2*p+1) n'):=by
 intro q hq
 rw[zj1 (by omega),zj1 (by omega)]
 by_cases e:q=p
 ·subst e
  rw[if_pos rfl,if_neg (by omega),if_pos rfl]
  refine⟨by omega,by omega,by omega,λi hi=>⟨λhh=>hown i (by omega) hi,λhh=>⟨?_,by omega⟩⟩⟩
  rcases Nat.lt_or_ge i f with g |g
  ·have:=hlow i g;omega
  ·omega
 ·rw[if_neg (by omega),if_neg (by omega),if_neg (by omega),if_neg (by omega)]
  obtain⟨h1,h2,h3,h4⟩:=h q (by omega)
  refine⟨h1,h2,by omega,λi hi=>?_⟩
  rcases Nat.lt_or_ge i f with g |g
  ·exact h4 i g
  ·have:=hown i g hi
   constructor
   ·intro hh;omega
   ·intro hh;omega
theorem zhb{n:Nat}(h:ZU pl n){i j:Nat}(hij:i<j)(hj:j<n):zq (ix pl i)<=zq (ix pl j):=by
 rcases Nat.lt_or_ge (zq (ix pl j)) (zq (ix pl i)) with g |g
 ·have:=h j hj
  rw[zel hij g]at this
  cases this
 ·exact g
theorem Z2.all{n:Nat}{ps:List Int}(h:Z2 pl 8 n ps)(hps:ps.length=20)(hn:n<=pl.length)(hlow:∀k,k<n->zq (ix pl k)<8)(hg:ZU pl pl.length)(h8:n<pl.length->zq (ix pl n)=8) :
  Z2 pl 10 pl.length ((((ps.set 16 n).set 17 pl.length).set 18 pl.length).set 19 pl.length):=by
 have hown:∀k,n<=k->k<pl.length->zq (ix pl k)=8:=by
  intro k h1 h2
  by_cases e:k=n
  ·subst e;exact h8 h2
  ·have:=zhb hg (i:=n) (j:=k) (by omega) h2
   rw[h8 (by omega)]at this
   have:=zak (ix pl k)
   omega
 have s8:=h.step (n':=pl.length) hps (by omega) hn hlow hown
 have:=s8.step (n':=pl.length) (by simpa using hps) (by omega) (Nat.le_refl _) (λk hk=>by have:=zak (ix pl k);omega) (λk h1 h2=>by omega)
 exact this
theorem zgC{P:Nat->Int->Prop}{Q:Int->Prop}{k:Int}(step:∀m a,P m a->Q a->m<pl.length->kdP (ix pl m)=k->∃a',P (m+1) a'/\Q a'){n':Nat}(hle:n<=n')(hn':n'<=pl.length)
  (hk:∀j,n<=j->j<n'->kdP (ix pl j)=k) {a:Int} (hP:P n a) (hQ:Q a):∃a',P n' a'/\Q a':=by
 obtain⟨d,rfl⟩:∃d,n'=n+d:=⟨n'-n,by omega⟩
 clear hle
 induction d with
 |zero=>exact⟨a,hP,hQ⟩
 |succ d ih=>
  obtain⟨a',h1,h2⟩:=ih (by omega) (λj g1 g2=>hk j g1 (by omega))
  exact step (n+d) a' h1 h2 (by omega) (hk (n+d) (by omega) (by omega))
theorem InvF.params(h:InvF pl n ah)(ha:ah=54\/ah=55){n':Nat}(hle:n<=n')(hn':n'<=pl.length)(hk:∀j,n<=j->j<n'->kdP (ix pl j)=2):∃ah',InvF pl n' ah'/\(ah'=54\/ah'=55):=
 zgC (P:=λm a=>InvF pl m a) (Q:=λa=>a=54\/a=55) (λm a h1 h2 h3 h4=>⟨55,h1.param h2 h3 h4,.inr rfl⟩) hle hn' hk h ha
theorem InvB.locals(h:InvB pl n true ah)(ha:ah=248\/ah=59){n':Nat}(hle:n<=n')(hn':n'<=pl.length)(hk:∀j,n<=j->j<n'->kdP (ix pl j)=5):∃ah',InvB pl n' true ah'/\(ah'=248\/ah'=59):=
 zgC (P:=λm a=>InvB pl m true a) (Q:=λa=>a=248\/a=59) (λm a h1 h2 h3 h4=>⟨59,h1.local h2 h3 h4,.inr rfl⟩) hle hn' hk h ha
theorem InvB.phis(h:InvB pl n false ah)(ha:ah=248\/ah=245){n':Nat}(hle:n<=n')(hn':n'<=pl.length)(hk:∀j,n<=j->j<n'->kdP (ix pl j)=4):∃ah',InvB pl n' false ah'/\(ah'=248\/ah'=245):=
 zgC (P:=λm a=>InvB pl m false a) (Q:=λa=>a=248\/a=245) (λm a h1 h2 h3 h4=>⟨245,h1.phi h2 h3 h4,.inr rfl⟩) hle hn' hk h ha
theorem InvB.plains(h:InvB pl n F ah){n':Nat}(hle:n<=n')(hn':n'<=pl.length)(hk:∀j,n<=j->j<n'->kdP (ix pl j)=0):∃ah',InvB pl n' F ah'/\(n'=n\/(ah'≠248/\ah'≠245/\ah'≠59)):=by
 by_cases e:n'=n
 ·subst e
  exact⟨ah,h,.inl rfl⟩
 ·obtain⟨m,rfl⟩:∃m,n'=m+1:=⟨n'-1,by omega⟩
  obtain⟨a,h1,_⟩:=zgC (P:=λm a=>InvB pl m F a) (Q:=λ_=>True) (n:=n) (n':=m) (λm a h1 _ h3 h4=>⟨_,(h1.plain h3 h4).1,trivial⟩) (by omega) (by omega) (λj g1 g2=>hk j g1 (by omega)) h trivial
  obtain⟨h2,h3⟩:=h1.plain (by omega) (hk m (by omega) (by omega))
  exact⟨_,h2,.inr h3⟩
theorem zcz{n':Nat}(hle:n<=n')(hk:∀j,n<=j->j<n'->zq (ix pl j)≠8\/kdP (ix pl j)=0\/kdP (ix pl j)=4\/kdP (ix pl j)=5\/kdP (ix pl j)=6):cutF pl n'=cutF pl n:=by
 obtain⟨d,rfl⟩:∃d,n'=n+d:=⟨n'-n,by omega⟩
 clear hle
 induction d with
 |zero=>rfl
 |succ d ih=>
  show cutS (cutF pl (n+d)) (n+d) (ix pl (n+d))=cutF pl n
  rw[ziy (hk (n+d) (by omega) (by omega)),ih λj g1 g2=>hk j g1 (by omega)]
theorem zos{l:List FnL}(h:cutF pl n=l)(hk:kdP (ix pl n)=1):cutF pl (n+1)=l++[⟨(ix pl n).2.2.1,n,0,[],[]⟩]:=by
 have h8:=Zk (p:=ix pl n) (by omega)
 have hop:=((yZ h8).1).1 hk
 show cutS (cutF pl n) n (ix pl n)=_
 unfold cutS
 rw[if_pos hop,h]
theorem zor{l:List FnL}{f:FnL}(h:cutF pl n=l++[f])(hk:kdP (ix pl n)=8):cutF pl (n+1)=l++[{f with en:=n}]:=by
 have h8:=Zk (p:=ix pl n) (by omega)
 have hop:=((yZ h8).2.2.1).1 hk
 show cutS (cutF pl n) n (ix pl n)=_
 unfold cutS
 rw[if_neg (by omega),if_neg (by omega),if_pos hop,h,yD]
theorem zma{l:List FnL}{f:FnL}(h:cutF pl n=l++[f])(hk:kdP (ix pl n)=3):cutF pl (n+1)=l++[{f with bk:=f.bk++[((ix pl n).2.2.1,(n:Int),0)]}]:=by
 have h8:=Zk (p:=ix pl n) (by omega)
 have hop:=((yZ h8).2.2.2.1).1 hk
 show cutS (cutF pl n) n (ix pl n)=_
 unfold cutS
 rw[if_neg (by omega),if_neg (by omega),if_neg (by omega),if_pos hop,h,yD]
theorem zlZ{l:List FnL}{f:FnL}{b:List (Int×Int×Int)}{i a t:Int}(h:cutF pl n=l++[{f with bk:=b++[(i,a,t)]}])(hk:kdP (ix pl n)=7) :
  cutF pl (n+1)=l++[{f with bk:=b++[(i,a,(n:Int)+1)]}]:=by
 have h8:=Zk (p:=ix pl n) (by omega)
 have hop:=((yZ h8).2.2.2.2.2.2.2.1).1 hk
 show cutS (cutF pl n) n (ix pl n)=_
 unfold cutS
 rw[if_neg (by omega),if_neg (by omega),if_neg (by omega),if_neg (by omega),if_pos (zbj.2 hop),h,yD]
 dsimp only
 rw[yD]
theorem zkK{l:List FnL}{f:FnL}(h:cutF pl n=l++[f]){n':Nat}(hle:n<=n')(hk:∀j,n<=j->j<n'->kdP (ix pl j)=2) :
  cutF pl n'=l++[{f with ps:=f.ps++(List.range (n'-n)).map λi=>((n+i:Nat):Int)}]:=by
 obtain⟨d,rfl⟩:∃d,n'=n+d:=⟨n'-n,by omega⟩
 clear hle
 rw[Nat.add_sub_cancel_left]
 induction d with
 |zero=>rw[List.range_zero,List.map_nil,List.append_nil];exact h
 |succ d ih=>
  have hk2:=hk (n+d) (by omega) (by omega)
  have h8:=Zk (p:=ix pl (n+d)) (by omega)
  have hop:=((yZ h8).2.1).1 hk2
  show cutS (cutF pl (n+d)) (n+d) (ix pl (n+d))=_
  unfold cutS
  rw[if_neg (by omega),if_pos hop,ih λj g1 g2=>hk j g1 (by omega),yD,List.range_succ,List.map_append]
  simp[List.append_assoc]
structure OutP (pl:List PI) (p f n:Nat):Prop where
 lo:f<=n
 le:n<=pl.length
 own:∀k,f<=k->k<n->zq (ix pl k)=p
 out:p≠1->InvT pl (p+1) n
 one:p=1->(n=f/\(f<pl.length->zq (ix pl f)≠1))\/n=f+1
theorem OutP.go{p f:Nat}(h:OutP pl p f n)(hT:InvT pl p f)(hne:p=1->n≠f):InvT pl (p+1) n:=by
 by_cases e:p=1
 ·subst e
  rcases h.one rfl with⟨g,_⟩ |g
  ·exact absurd g (hne rfl)
  ·subst g
   exact hT.model (by have:=h.le;omega) (h.own f (Nat.le_refl _) (by omega))
 ·exact h.out e
theorem OutP.stop{f:Nat}(h:OutP pl 1 f n)(hT:InvT pl 1 f)(he:n=f):zcl pl n:=by
 rcases h.one rfl with⟨_,g⟩ |g
 ·subst he
  exact hT.nomodel g
 ·omega
end Go.Proofs
namespace Go.Proofs
open Go.Gk
set_option linter.unusedVariables false
set_option maxRecDepth 100000
def zfT:Ann:=(.q (.q (.q .nil)))
def zfH(p0:(Int×Int×Sl×Unit))(R:VWP)(w:World):Prop:=Nw (w.alloc (.cells #[zu p0.1,zu p0.2.1,p0.2.2.1.zw] 25)) λw1=>Nw (w1.alloc (.cells #[zi 0,zi 0] 29)) λw2=>da w2 (zB w) λx1 x2 x3=>de 76 #[.agg #[zu x1,zu x2,x3.zw]] w2 λx5 x6 w3=>dc w3 #[zi 0,zi 0] 29 (zi x6.1) (zi x6.2.1) λw6=>db w6 (zB w3) λx7 x8=>dd w6 (zB w1) (zi x7) (zi x8) λw8=>db w8 (zB w1) λx9 x10=>R (.agg #[zi x9,zi x10]) w8
theorem zgQ(p0)(R)(w)(h:zfH p0 R w):Calls Tryz.prog 43 #[.agg #[.int .u32 p0.1,.int .u32 p0.2.1,.slice p0.2.2.1.a p0.2.2.1.l p0.2.2.1.c]] w (Ret R):=lwC zfT Tryz.func43 (by kernel_rfl) (by kernel_rfl) h
def zim:Ann:=(.q (.q (.seq (some ⟨[1],[(3,(.b .slice))]⟩) (.q .c) (.seq none (.q (.one (.loop ⟨[15,16],[(3,(.b .slice)),(17,(.b (.int .i64)))]⟩ (.q (.seq none .c (.seq (some ⟨[15,16,17],[(3,(.b .slice))]⟩) (.one (.q (.q .c))) .nil)))))) (.q .nil)))))
def zij(p0:(Int×Int×Int×Sl×Unit))(R:VWP)(w:World):Prop:=Nw (w.alloc (.cells #[zh p0.1,zu p0.2.1,zu p0.2.2.1,p0.2.2.2.1.zw] 50)) λw1=>zk (S:=Sl×Unit) (λm1=>ldI w1 ((zB w).add 1) .u32 λx3=>ifB (x3 !=0) (ldI w1 ((zB w).add 1) .u32 λx4=>Nw (w1.alloc (.cells #[zu x4] 22)) λw2=>zC Tryz.prog 26 (.slice none 0 0) (.slice (some (zB w1)) 1 1) w2 λr5 w3=>m1 (r5,()) w3) (m1 ((Sl.mk none 0 0),()) w1)) (λs2 w4=>ldS w4 ((zB w).add 3) λx6=>zj (S:=Sl×Int×Unit) (λs7 w5 n8=>ifB (decide (s7.2.1<(x6.l:Int))) (zk (S:=Sl×Unit) (λm9=>(0<=s7.2.1/\s7.2.1<(x6.l:Int))/\za x6.a λa11=>dr w5 (a11.add (s7.2.1.toNat *3)) λx12 x13 x14=>Nw (w5.alloc (.cells #[zb 0,zu 0,.string (BM #[])] 136)) λw6=>ds w6 (zB w5) (zb x12) (zu x13) (.string x14) λw9=>ldI w9 (zB w5) .u8 λx15=>ifB (x15==1) (ldI w9 ((zB w5).add 1) .u32 λx16=>Nw (w9.alloc (.cells #[zu x16] 22)) λw10=>zC Tryz.prog 26 (s7.1.zw) (.slice (some (zB w9)) 1 1) w10 λr17 w11=>m9 (r17,()) w11) (m9 (s7.1,()) w9)) (λs10 w12=>n8 (s10.1,(IntKind.i64.wrap (s7.2.1+(1:Int))),()) w12)) (R (s7.1.zw) w5)) (s2.1,0,()) w4)
theorem ziv(p0)(R)(w)(h:zij p0 R w):Calls Tryz.prog 69 #[.agg #[.int .u16 p0.1,.int .u32 p0.2.1,.int .u32 p0.2.2.1,.slice p0.2.2.2.1.a p0.2.2.2.1.l p0.2.2.2.1.c]] w (Ret R):=lwC zim Tryz.func69 (by kernel_rfl) (by kernel_rfl) h
def zhw:Ann:=(.q (.seq (some ⟨[1,3],[]⟩) (.q (.cond (.q .nil) .nil)) (.q (.q (.q (.seq none (.q (.one (.loop ⟨[1,3,27,28],[(4,(.b (.int .i64))),(6,(.b .slice)),(29,(.b (.int .i64)))]⟩ (.q (.seq none .c (.seq none (.one (.q (.q (.q (.seq none (.one (.q (.cond (.q .nil) (.q (.cond (.q .nil) .nil))))) .nil))))) .nil)))))) (.q .nil)))))))
def zhs(p0:(Int×Int×Sl×Unit))(R:VWP)(w:World):Prop:=Nw (w.alloc (.cells #[zu p0.1,zu p0.2.1,p0.2.2.1.zw] 25)) λw1=>Nw (w1.alloc (.cells #[zi 0,zi 0] 29)) λw2=>zk (S:=Unit) (λm1=>ldI w2 ((zB w).add 1) .u32 λx3=>ifB (x3==0) (dd w2 (zB w1) (zi 24) (zi 0) λw4=>db w4 (zB w1) λx4 x5=>R (.tuple #[.slice none 0 0,.agg #[zi x4,zi x5]]) w4) (ldI w2 ((zB w).add 1) .u32 λx6=>ifB (decide (x6>(65536:Int))) (dd w2 (zB w1) (zi 24) (zi 0) λw6=>db w6 (zB w1) λx7 x8=>R (.tuple #[.slice none 0 0,.agg #[zi x7,zi x8]]) w6) (m1 () w2))) (λs2 w7=>dR 113 #[.slice none 0 0] w7 λx10 x11 w8=>ldS w8 ((zB w).add 2) λx12=>zj (S:=Int×Sl×Int×Unit) (λs13 w9 n14=>ifB (decide (s13.2.2.1<(x12.l:Int))) ((0<=s13.2.2.1/\s13.2.2.1<(x12.l:Int))/\za x12.a λa15=>dt w9 (a15.add (s13.2.2.1.toNat *4)) λx16 x17 x18 x19=>dp w9 #[zh 0,zu 0,zu 0,.slice none 0 0] 50 (zh x16) (zu x17) (zu x18) (x19.zw) λw14=>dt w14 (zB w9) λx20 x21 x22 x23=>ldI w14 ((zB w).add 1) .u32 λx24=>dS 114 #[.agg #[zh x20,zu x21,zu x22,x23.zw],zu x24] w14 λx26 x27 w15=>dc w15 #[zh 0,.slice none 0 0] 197 (zh x26.1) (x26.2.1.zw) λw18=>ldS w18 ((zB w15).add 1) λx28=>ifB (x27 !=0) (dd w18 (zB w1) (zi x27) (zi s13.2.2.1) λw20=>db w20 (zB w1) λx29 x30=>R (.tuple #[.slice none 0 0,.agg #[zi x29,zi x30]]) w20) (ifB (decide ((IntKind.i64.wrap (s13.1-(IntKind.i64.wrap (1+(x28.l:Int)))))<0)) (dd w18 (zB w1) (zi 4) (zi s13.2.2.1) λw22=>db w22 (zB w1) λx31 x32=>R (.tuple #[.slice none 0 0,.agg #[zi x31,zi x32]]) w22) (dQ w18 (zB w15) λx33 x34=>Nw (w18.alloc (.cells #[zh x33,x34.zw] 197)) λw23=>zC Tryz.prog 149 (s13.2.1.zw) (.slice (some (zB w18)) 1 1) w23 λr35 w24=>n14 ((IntKind.i64.wrap (s13.1-(IntKind.i64.wrap (1+(x28.l:Int))))),r35,(IntKind.i64.wrap (s13.2.2.1+(1:Int))),()) w24))) (dd w9 (zB w1) (zi 0) (zi 0) λw26=>db w26 (zB w1) λx36 x37=>R (.tuple #[s13.2.1.zw,.agg #[zi x36,zi x37]]) w26)) ((IntKind.i64.wrap (1048576-x10)),(Sl.mk none 0 0),0,()) w8)
theorem zhL(p0)(R)(w)(h:zhs p0 R w):Calls Tryz.prog 76 #[.agg #[.int .u32 p0.1,.int .u32 p0.2.1,.slice p0.2.2.1.a p0.2.2.1.l p0.2.2.1.c]] w (Ret R):=lwC zhw Tryz.func76 (by kernel_rfl) (by kernel_rfl) h
def zfY:Ann:=(.q (.q (.q .nil)))
def zfM(p0:Sl)(R:VWP)(w:World):Prop:=dT 147 #[p0.zw] w λx2 x3 w1=>dc w1 #[zi 0,zi 0] 29 (zi x3.1) (zi x3.2.1) λw4=>ldI w4.drew (zB w1) .i64 λx4=>R (.tuple #[zi x2,zi x4]) w4.drew
theorem zgY(p0)(R)(w)(h:zfM p0 R w):Calls Tryz.prog 113 #[.slice p0.a p0.l p0.c] w (Ret R):=lwC zfY Tryz.func113 (by kernel_rfl) (by kernel_rfl) h
def zin:Ann:=(.q (.q (.seq none (.q (.cond (.q .nil) .nil)) (.q (.q (.seq (some ⟨[2,4,6,8],[(9,(.b (.int .i64)))]⟩) (.q .c) (.q (.seq none (.q (.one (.loop ⟨[2,4,6,8,10,43,44],[(9,(.b (.int .i64))),(45,(.b (.int .i64)))]⟩ (.q (.seq none .c (.seq (some ⟨[2,4,6,8,10,43,44,45],[(9,(.b (.int .i64)))]⟩) (.one (.q (.q .c))) .nil)))))) (.seq (some ⟨[2,4,8],[(9,(.b (.int .i64)))]⟩) (.q .c) (.seq (some ⟨[2,4,8],[(9,(.b (.int .i64)))]⟩) (.q .c) (.seq none (.q (.cond (.q .nil) .nil)) (.q .nil))))))))))))
def zik(p0:(Int×Int×Int×Sl×Unit))(p1:Int)(R:VWP)(w:World):Prop:=Nw (w.alloc (.cells #[zh p0.1,zu p0.2.1,zu p0.2.2.1,p0.2.2.2.1.zw] 50)) λw1=>Nw (w1.alloc (.cells #[zh 0,.slice none 0 0] 197)) λw2=>ldI w2 (zB w) .u16 λx1=>dI 108 #[zh x1] w2 λx3 x4 w3=>Nw (w3.alloc (.cells #[zh 0,.string (BM #[]),.bool false,.bool false,.string (BM #[]),.string (BM #[]),zi 0,zb 0] 187)) λw4=>dH w4 (zB w3) (zh x3.1) (.string x3.2.1) (.bool x3.2.2.1) (.bool x3.2.2.2.1) (.string x3.2.2.2.2.1) (.string x3.2.2.2.2.2.1) (zi x3.2.2.2.2.2.2.1) (zb x3.2.2.2.2.2.2.2.1) λw12=>ifB (!x4) (dd w12 (zB w1) (zh 0) (.slice none 0 0) λw14=>dQ w14 (zB w1) λx5 x6=>R (.tuple #[.agg #[zh x5,x6.zw],zi 30]) w14) (dJ w12 (zB w3) λx7 x8 x9 x10 x11 x12 x13 x14=>Nw (w12.alloc (.cells #[zh x7,.string x8,.bool x9,.bool x10,.string x11,.string x12,zi x13,zb x14,zu p1,.slice none 0 0,zi 0] 228)) λw15=>ldB w15 ((zB w3).add 2) λx15=>ldI w15 ((zB w).add 1) .u32 λx16=>dB 148 #[.pointer (some (zB w12)),.bool x15,zu x16,zi 40] w15 λx18 w16=>zk (S:=Int×Unit) (λm19=>ifB (x18==0) (ldB w16 ((zB w3).add 3) λx21=>ldI w16 ((zB w).add 2) .u32 λx22=>dB 148 #[.pointer (some (zB w12)),.bool x21,zu x22,zi 41] w16 λx24 w17=>m19 (x24,()) w17) (m19 (x18,()) w16)) (λs20 w18=>ldS w18 ((zB w).add 3) λx25=>zj (S:=Int×Int×Unit) (λs26 w19 n27=>ifB (decide (s26.2.1<(x25.l:Int))) (zk (S:=Int×Unit) (λm28=>(0<=s26.2.1/\s26.2.1<(x25.l:Int))/\za x25.a λa30=>dr w19 (a30.add (s26.2.1.toNat *3)) λx31 x32 x33=>Nw (w19.alloc (.cells #[zb 0,zu 0,.string (BM #[])] 136)) λw20=>ds w20 (zB w19) (zb x31) (zu x32) (.string x33) λw23=>ifB (s26.1==0) (dr w23 (zB w19) λx34 x35 x36=>dB 149 #[.pointer (some (zB w12)),zi s26.2.1,.agg #[zb x34,zu x35,.string x36]] w23 λx38 w24=>m28 (x38,()) w24) (m28 (s26.1,()) w23)) (λs29 w25=>n27 (s29.1,(IntKind.i64.wrap (s26.2.1+(1:Int))),()) w25)) (zk (S:=Int×Unit) (λm39=>ifB (s26.1==0) (dJ w19 (zB w3) λx41 x42 x43 x44 x45 x46 x47 x48=>ldS w19 ((zB w).add 3) λx49=>dB 150 #[.agg #[zh x41,.string x42,.bool x43,.bool x44,.string x45,.string x46,zi x47,zb x48],x49.zw] w19 λx51 w26=>m39 (x51,()) w26) (m39 (s26.1,()) w19)) (λs40 w27=>zk (S:=Int×Unit) (λm52=>ifB (s40.1==0) (ldI w27 ((zB w12).add 10) .i64 λx54=>ifB (decide (x54≥(65535:Int))) (m52 (25,()) w27) (m52 (s40.1,()) w27)) (m52 (s40.1,()) w27)) (λs53 w28=>ifB (s53.1 !=0) (dd w28 (zB w1) (zh 0) (.slice none 0 0) λw30=>dQ w30 (zB w1) λx55 x56=>R (.tuple #[.agg #[zh x55,x56.zw],zi s53.1]) w30) (ldI w28.drew (zB w) .u16 λx57=>ldS w28.drew ((zB w12).add 9) λx58=>dd w28.drew (zB w1) (zh x57) (x58.zw) λw32=>dQ w32 (zB w1) λx59 x60=>R (.tuple #[.agg #[zh x59,x60.zw],zi 0]) w32))))) (s20.1,0,()) w18))
theorem ziw(p0)(p1)(R)(w)(h:zik p0 p1 R w):Calls Tryz.prog 114 #[.agg #[.int .u16 p0.1,.int .u32 p0.2.1,.int .u32 p0.2.2.1,.slice p0.2.2.2.1.a p0.2.2.2.1.l p0.2.2.2.1.c],.int .u32 p1] w (Ret R):=lwC zin Tryz.func114 (by kernel_rfl) (by kernel_rfl) h
def zdv:Ann:=(.q (.q (.seq none (.q (.one (.loop ⟨[3,7,8],[(4,(.b (.int .i64))),(9,(.b (.int .i64)))]⟩ (.q (.seq none .c (.seq none (.one (.q (.q (.one (.q (.cond (.q .nil) (.q (.cond (.q .nil) .nil)))))))) .nil)))))) (.q .nil))))
def zdk(p0:Sl)(R:VWP)(w:World):Prop:=Nw (w.alloc (.cells #[zi 0,zi 0] 29)) λw1=>zj (S:=Int×Int×Unit) (λs1 w2 n2=>ifB (decide (s1.2.1<(p0.l:Int))) ((0<=s1.2.1/\s1.2.1<(p0.l:Int))/\za p0.a λa3=>dQ w2 (a3.add (s1.2.1.toNat *2)) λx4 x5=>dc w2 #[zh 0,.slice none 0 0] 197 (zh x4) (x5.zw) λw5=>ldS w5 ((zB w2).add 1) λx6=>ldS w5 ((zB w2).add 1) λx7=>ifB (decide ((x7.l:Int)≥65535)) (dd w5 (zB w) (zi 25) (zi s1.2.1) λw7=>db w7 (zB w) λx8 x9=>R (.tuple #[zi 0,.agg #[zi x8,zi x9]]) w7) (ifB (decide ((IntKind.i64.wrap (s1.1+(IntKind.i64.wrap (1+(x6.l:Int)))))>1048576)) (dd w5 (zB w) (zi 4) (zi s1.2.1) λw9=>db w9 (zB w) λx10 x11=>R (.tuple #[zi 0,.agg #[zi x10,zi x11]]) w9) (n2 ((IntKind.i64.wrap (s1.1+(IntKind.i64.wrap (1+(x6.l:Int))))),(IntKind.i64.wrap (s1.2.1+(1:Int))),()) w5))) (dd w2 (zB w) (zi 0) (zi 0) λw11=>db w11 (zB w) λx12 x13=>R (.tuple #[zi s1.1,.agg #[zi x12,zi x13]]) w11)) (5,0,()) w1
theorem zeK(p0)(R)(w)(h:zdk p0 R w):Calls Tryz.prog 147 #[.slice p0.a p0.l p0.c] w (Ret R):=lwC zdv Tryz.func147 (by kernel_rfl) (by kernel_rfl) h
def zaY:Ann:=(.q (.seq none (.one (.q (.cond (.q .nil) (.q (.cond (.q .nil) .nil))))) (.q (.q .nil))))
def zaQ(p0:Option Addr)(p1:Bool)(p2:Int)(p3:Int)(R:VWP)(w:World):Prop:=ifB (!(p1==(p2 !=0))) (R (zi p3) w) (ifB (!p1) (R (zi 0) w) (cR 172 #[.pointer p0,zu p2] w λv1 w1=>v1=(.tuple #[])/\za p0 λa2=>ldI w1 (a2.add 8) .u32 λx3=>dB 173 #[zu p2,zu x3] w1 λx5 w2=>R (zi x5) w2))
theorem zcH(p0)(p1)(p2)(p3)(R)(w)(h:zaQ p0 p1 p2 p3 R w):Calls Tryz.prog 148 #[.pointer p0,.bool p1,.int .u32 p2,.int .i64 p3] w (Ret R):=lwC zaY Tryz.func148 (by kernel_rfl) (by kernel_rfl) h
def zbE:Ann:=(.q (.q (.q (.seq (some ⟨[0,5,7],[]⟩) (.one (.q (.cond (.q .nil) (.q (.cond (.q .nil) .nil))))) (.q (.seq none (.q (.one (.q (.cond (.q .nil) (.q (.cond (.q .nil) .nil)))))) (.q .nil)))))))
def zb4(p0:Option Addr)(p1:Int)(p2:(Int×Int×ByteArray×Unit))(R:VWP)(w:World):Prop:=Nw (w.alloc (.cells #[zb p2.1,zu p2.2.1,.string p2.2.2.1] 136)) λw1=>za p0 λa1=>ldI w1 a1 .u16 λx2=>dG 174 #[zh x2,zi p1] w1 λx4 w2=>ldI w2 (zB w) .u8 λx5=>zk (S:=Unit) (λm6=>ifB (x4==0) (R (zi 42) w2.drew) (ldI w2.drew (zB w) .u8 λx8=>dG 109 #[zb x4] w2.drew λx10 w3=>w3.cell? (zB w)=some (zb x8)/\ifB (x8 !=x10) (R (zi 42) w3) (ifB (x5==3) (ldI w3 ((zB w).add 1) .u32 λx11=>ifB (x11 !=0) (R (zi 42) w3) (ifB (!(x5==3)) (zx w3 ((zB w).add 2) λx12=>ifB (!(x12.toList==(BM #[]).toList)) (R (zi 42) w3) (ifB (x5==3) (zx w3 ((zB w).add 2) λx13=>dB 175 #[.pointer p0,.string x13] w3 λx15 w4=>R (zi x15) w4) (m6 () w3))) (ifB (x5==3) (zx w3 ((zB w).add 2) λx16=>dB 175 #[.pointer p0,.string x16] w3 λx18 w5=>R (zi x18) w5) (m6 () w3)))) (ifB (!(x5==3)) (zx w3 ((zB w).add 2) λx19=>ifB (!(x19.toList==(BM #[]).toList)) (R (zi 42) w3) (ifB (x5==3) (zx w3 ((zB w).add 2) λx20=>dB 175 #[.pointer p0,.string x20] w3 λx22 w6=>R (zi x22) w6) (m6 () w3))) (ifB (x5==3) (zx w3 ((zB w).add 2) λx23=>dB 175 #[.pointer p0,.string x23] w3 λx25 w7=>R (zi x25) w7) (m6 () w3)))))) (λs7 w8=>ldI w8 ((zB w).add 1) .u32 λx26=>cR 172 #[.pointer p0,zu x26] w8 λv27 w9=>v27=(.tuple #[])/\ldI w9 (zB w) .u8 λx28=>ifB (x28==1) (ldI w9.drew ((zB w).add 1) .u32 λx29=>za p0 λa30=>ldI w9.drew (a30.add 8) .u32 λx31=>dB 173 #[zu x29,zu x31] w9.drew λx33 w10=>R (zi x33) w10) (ifB (x28==4) (ldI w9 ((zB w).add 1) .u32 λx34=>dB 176 #[zb x4,zu x34] w9 λx36 w11=>R (zi x36) w11) (R (zi 0) w9)))
theorem zd7(p0)(p1)(p2)(R)(w)(h:zb4 p0 p1 p2 R w):Calls Tryz.prog 149 #[.pointer p0,.int .i64 p1,.agg #[.int .u8 p2.1,.int .u32 p2.2.1,.string p2.2.2.1]] w (Ret R):=lwC zbE Tryz.func149 (by kernel_rfl) (by kernel_rfl) h
def zfV:Ann:=(.q (.q (.seq none (.q (.one (.loop ⟨[2,10,11],[(5,(.b .slice)),(12,(.b (.int .i64)))]⟩ (.q (.seq none .c (.seq none (.one (.q .nil)) .nil)))))) (.seq none (.q (.q (.cond (.q .nil) .nil))) (.q .nil)))))
def zfJ(p0:(Int×ByteArray×Bool×Bool×ByteArray×ByteArray×Int×Int×Unit))(p1:Sl)(R:VWP)(w:World):Prop:=Nw (w.alloc (.cells #[zh p0.1,.string p0.2.1,.bool p0.2.2.1,.bool p0.2.2.2.1,.string p0.2.2.2.2.1,.string p0.2.2.2.2.2.1,zi p0.2.2.2.2.2.2.1,zb p0.2.2.2.2.2.2.2.1] 187)) λw1=>zj (S:=Sl×Int×Unit) (λs1 w2 n2=>ifB (decide (s1.2.1<(p1.l:Int))) ((0<=s1.2.1/\s1.2.1<(p1.l:Int))/\za p1.a λa3=>dr w2 (a3.add (s1.2.1.toNat *3)) λx4 x5 x6=>Nw (w2.alloc (.cells #[zb 0,zu 0,.string (BM #[])] 136)) λw3=>ds w3 (zB w2) (zb x4) (zu x5) (.string x6) λw6=>ldI w6 (zB w2) .u8 λx7=>Nw (w6.alloc (.cells #[zb x7] 5)) λw7=>zC Tryz.prog 145 (s1.1.zw) (.slice (some (zB w6)) 1 1) w7 λr8 w8=>n2 (r8,(IntKind.i64.wrap (s1.2.1+(1:Int))),()) w8) (ldI w2 (zB w) .u16 λx9=>dU 73 #[zh x9,s1.1.zw] w2 λx11 x12 w9=>ifB (!x12) (R (zi 42) w9) (R (zi 0) w9))) ((Sl.mk none 0 0),0,()) w1
theorem zgS(p0)(p1)(R)(w)(h:zfJ p0 p1 R w):Calls Tryz.prog 150 #[.agg #[.int .u16 p0.1,.string p0.2.1,.bool p0.2.2.1,.bool p0.2.2.2.1,.string p0.2.2.2.2.1,.string p0.2.2.2.2.2.1,.int .i64 p0.2.2.2.2.2.2.1,.int .u8 p0.2.2.2.2.2.2.2.1],.slice p1.a p1.l p1.c] w (Ret R):=lwC zfV Tryz.func150 (by kernel_rfl) (by kernel_rfl) h
def zbF:Ann:=(.q .nil)
def zb5(p0:Option Addr)(p1:Int)(R:VWP)(w:World):Prop:=za p0 λa1=>ldS w (a1.add 9) λx2=>Nw (w.alloc (.cells #[zu p1] 22)) λw1=>zC Tryz.prog 26 (x2.zw) (.slice (some (zB w)) 1 1) w1 λr3 w2=>za p0 λa4=>Wr w2 (a4.add 9)/\Nw (w2.setCell (a4.add 9) (r3.zw)) λw3=>za p0 λa5=>ldI w3 (a5.add 10) .i64 λx6=>za p0 λa7=>Wr w3 (a7.add 10)/\Nw (w3.setCell (a7.add 10) (zi (IntKind.i64.wrap (x6+(1:Int))))) λw4=>R (.tuple #[]) w4
theorem zd8(p0)(p1)(R)(w)(h:zb5 p0 p1 R w):Calls Tryz.prog 172 #[.pointer p0,.int .u32 p1] w (Ret R):=lwC zbF Tryz.func172 (by kernel_rfl) (by kernel_rfl) h
def zjn:Ann:=(.q (.seq none (.q (.cond (.q .nil) .nil)) (.q .nil)))
def zjm(p0:Int)(p1:Int)(R:VWP)(w:World):Prop:=ifB (p0==0) (R (zi 43) w) (ifB (decide (p0≥p1)) (R (zi 43) w) (R (zi 0) w))
theorem ziZ(p0)(p1)(R)(w)(h:zjm p0 p1 R w):Calls Tryz.prog 173 #[.int .u32 p0,.int .u32 p1] w (Ret R):=lwC zjn Tryz.func173 (by kernel_rfl) (by kernel_rfl) h
def zaZ:Ann:=(.q (.seq none (.q (.cond (.q .nil) .nil)) (.q (.seq none (.q (.cond (.q (.q .nil)) .nil)) (.q (.q (.q .nil)))))))
def zaR(p0:Option Addr)(p1:ByteArray)(R:VWP)(w:World):Prop:=dB 185 #[.string p1,zb 0] w λx2 w1=>ifB (decide (x2≥(0:Int))) (R (zi 13) w1) (dV 186 #[.string p1] w1 λx4 x5 w2=>ifB (x5 !=0) (za p0 λa6=>ldI w2.drew (a6.add 10) .i64 λx7=>dB 187 #[.string p1] w2.drew λx9 w3=>w3.cell? (a6.add 10)=some (zi x7)/\za p0 λa10=>Wr w3 (a10.add 10)/\Nw (w3.setCell (a10.add 10) (zi (IntKind.i64.wrap (x7+x9)))) λw4=>R (zi 0) w4) (za p0 λa11=>ldS w2 (a11.add 9) λx12=>zC Tryz.prog 26 (x12.zw) (x4.zw) w2 λr13 w5=>za p0 λa14=>Wr w5 (a14.add 9)/\Nw (w5.setCell (a14.add 9) (r13.zw)) λw6=>za p0 λa15=>ldI w6 (a15.add 10) .i64 λx16=>za p0 λa17=>Wr w6 (a17.add 10)/\Nw (w6.setCell (a17.add 10) (zi (IntKind.i64.wrap (x16+(x4.l:Int))))) λw7=>R (zi 0) w7))
theorem zcI(p0)(p1)(R)(w)(h:zaR p0 p1 R w):Calls Tryz.prog 175 #[.pointer p0,.string p1] w (Ret R):=lwC zaZ Tryz.func175 (by kernel_rfl) (by kernel_rfl) h
def zfU:Ann:=(.q (.seq none (.q (.q (.cond (.q .nil) .nil))) (.q .nil)))
def zfI(p0:Int)(p1:Int)(R:VWP)(w:World):Prop:=dW 188 #[zb p0,zu p1] w λx2 x3 w1=>ifB (!x3) (R (zi 31) w1) (R (zi 0) w1)
theorem zgR(p0)(p1)(R)(w)(h:zfI p0 p1 R w):Calls Tryz.prog 176 #[.int .u8 p0,.int .u32 p1] w (Ret R):=lwC zfU Tryz.func176 (by kernel_rfl) (by kernel_rfl) h
def za7:Ann:=(.q (.q .nil))
def za0(p0:ByteArray)(p1:Int)(R:VWP)(w:World):Prop:=dB 192 #[.string p0,zb p1] w λx2 w1=>R (zi x2) w1
theorem zcD(p0)(p1)(R)(w)(h:za0 p0 p1 R w):Calls Tryz.prog 185 #[.string p0,.int .u8 p1] w (Ret R):=lwC za7 Tryz.func185 (by kernel_rfl) (by kernel_rfl) h
def zdR:Ann:=(.q (.seq none (.q (.one (.loop ⟨[0,8],[(9,(.b (.int .i64)))]⟩ (.q (.seq none .c (.seq none (.one (.q (.q (.cond (.q .nil) .nil)))) .nil)))))) (.seq none (.q (.cond (.q .nil) .nil)) (.q (.seq none (.q (.one (.loop ⟨[0,5,24],[(25,(.b (.int .i64)))]⟩ (.q (.seq none .c (.seq none (.one (.q .nil)) .nil)))))) (.q .nil))))))
def zdM(p0:ByteArray)(R:VWP)(w:World):Prop:=zj (S:=Int×Unit) (λs1 w1 n2=>ifB (decide (s1.1<(p0.size:Int))) ((0<=s1.1/\s1.1<(p0.size:Int))/\ifB ((za8 p0 s1.1)==0) (R (.tuple #[.slice none 0 0,zi 13]) w1) (n2 ((IntKind.i64.wrap (s1.1+(1:Int))),()) w1)) (dB 187 #[.string p0] w1 λx4 w2=>ifB (decide (x4>(65535:Int))) (R (.tuple #[.slice none 0 0,zi 4]) w2) (dB 187 #[.string p0] w2 λx6 w3=>(0<=x6/\x6<=x6/\4*x6<=281474976710656/\x6<=9223372036854775807)/\Nw (w3.alloc (.cells (madeCells #[zu 0] (x6.toNat *1)) 22)) λw4=>zj (S:=Int×Unit) (λs7 w5 n8=>ifB (decide (s7.1<(p0.size:Int))) ((0<=(IntKind.i64.wrap (Int.tdiv s7.1 4))/\(IntKind.i64.wrap (Int.tdiv s7.1 4))<(x6.toNat:Int))/\ldI w5.drew ((zB w3).add (Int.toNat (IntKind.i64.wrap (Int.tdiv s7.1 4)))) .u32 λx9=>(0<=s7.1/\s7.1<(p0.size:Int))/\ifB (decide ((IntKind.i64.wrap (8*(Int.tmod s7.1 4)))<0)) (False) ((0<=(IntKind.i64.wrap (Int.tdiv s7.1 4))/\(IntKind.i64.wrap (Int.tdiv s7.1 4))<(x6.toNat:Int))/\Wr w5.drew ((zB w3).add (Int.toNat (IntKind.i64.wrap (Int.tdiv s7.1 4))))/\Nw (w5.drew.setCell ((zB w3).add (Int.toNat (IntKind.i64.wrap (Int.tdiv s7.1 4)))) (zu (IntKind.u32.wrap (BitVec.toNat (BitVec.ofInt (IntKind.bits .u32) x9 ||| BitVec.ofInt (IntKind.bits .u32) (IntKind.u32.wrap ((IntKind.u32.wrap (za8 p0 s7.1))*2 ^ (min (Int.toNat (IntKind.i64.wrap (8*(Int.tmod s7.1 4)))) (IntKind.bits .u32))))):Int)))) λw6=>n8 ((IntKind.i64.wrap (s7.1+(1:Int))),()) w6)) (R (.tuple #[.slice (some (zB w3)) x6.toNat x6.toNat,zi 0]) w5)) (0,()) w4))) (0,()) w
theorem zfF(p0)(R)(w)(h:zdM p0 R w):Calls Tryz.prog 186 #[.string p0] w (Ret R):=lwC zdR Tryz.func186 (by kernel_rfl) (by kernel_rfl) h
def zge:Ann:=(.q (.q .nil))
def zfS(p0:ByteArray)(R:VWP)(w:World):Prop:=R (zi (IntKind.i64.wrap ((IntKind.i64.wrap (Int.tdiv (p0.size:Int) 4))+1))) w
theorem zhr(p0)(R)(w)(h:zfS p0 R w):Calls Tryz.prog 187 #[.string p0] w (Ret R):=lwC zge Tryz.func187 (by kernel_rfl) (by kernel_rfl) h
def yL:Ann:=(.q (.q .nil))
def yK(p0:ByteArray)(p1:Int)(R:VWP)(w:World):Prop:=extR Tryz.prog 196 #[.string p0,zb p1] w λv1 w1=>∃x2:Int,v1=(zi x2)/\R (zi x2) w1
theorem ZC(p0)(p1)(R)(w)(h:yK p0 p1 R w):Calls Tryz.prog 192 #[.string p0,.int .u8 p1] w (Ret R):=lwC yL Tryz.func192 (by kernel_rfl) (by kernel_rfl) h
end Go.Proofs
namespace Go.Proofs
open Go.Gk
set_option linter.unusedVariables false
set_option maxRecDepth 100000
def Yt:Ann:=(.q (.q (.seq none (.q (.one (.loop ⟨[1,2,3],[(4,(.b (.int .i64)))]⟩ (.seq none (.q .c) (.seq none (.one .nil) .nil))))) (.q (.q .nil)))))
def Yn(p0:(Int×Int×Int×Sl×Unit))(R:VWP)(w:World):Prop:=Nw (w.alloc (.cells #[zh p0.1,zu p0.2.1,zu p0.2.2.1,p0.2.2.2.1.zw] 50)) λw1=>Nw (w1.alloc (.cells #[zh 0,zu 0,zu 0,.slice none 0 0] 50)) λw2=>ldS w2 ((zB w).add 3) λx1=>(0<=(x1.l:Int)/\(x1.l:Int)<=(x1.l:Int)/\24*(x1.l:Int)<=281474976710656/\(x1.l:Int)<=9223372036854775807)/\Nw (w2.alloc (.cells (madeCells #[zb 0,zu 0,.string (BM #[])] (x1.l*3)) 136)) λw3=>zj (S:=Int×Unit) (λs2 w4 n3=>ldS w4 ((zB w).add 3) λx4=>ifB (decide (s2.1<(x4.l:Int))) (ldS w4 ((zB w).add 3) λx5=>(0<=s2.1/\s2.1<(x5.l:Int))/\za x5.a λa6=>dr w4 (a6.add (s2.1.toNat *3)) λx7 x8 x9=>(0<=s2.1/\s2.1<(x1.l:Int))/\Wr w4 ((zB w2).add (s2.1.toNat *3))/\Nw (w4.setCell ((zB w2).add (s2.1.toNat *3)) (zb x7)) λw5=>Wr w5 (((zB w2).add (s2.1.toNat *3)).add 1)/\Nw (w5.setCell (((zB w2).add (s2.1.toNat *3)).add 1) (zu x8)) λw6=>Wr w6 (((zB w2).add (s2.1.toNat *3)).add 2)/\Nw (w6.setCell (((zB w2).add (s2.1.toNat *3)).add 2) (.string x9)) λw7=>n3 ((IntKind.i64.wrap (s2.1+(1:Int))),()) w7) (Wr w4 ((zB w).add 3)/\Nw (w4.setCell ((zB w).add 3) (.slice (some (zB w2)) x1.l x1.l)) λw8=>dt w8 (zB w) λx10 x11 x12 x13=>dq w8 (zB w1) (zh x10) (zu x11) (zu x12) (x13.zw) λw12=>dt w12 (zB w1) λx14 x15 x16 x17=>R (.agg #[zh x14,zu x15,zu x16,x17.zw]) w12)) (0,()) w3
theorem zbm(p0)(R)(w)(h:Yn p0 R w):Calls Tryz.prog 29 #[.agg #[.int .u16 p0.1,.int .u32 p0.2.1,.int .u32 p0.2.2.1,.slice p0.2.2.2.1.a p0.2.2.2.1.l p0.2.2.2.1.c]] w (Ret R):=lwC Yt Tryz.func29 (by kernel_rfl) (by kernel_rfl) h
def zd0:Ann:=(.q (.q (.seq none (.q (.one (.loop ⟨[1,12,13],[(3,(.b .slice)),(14,(.b (.int .i64)))]⟩ (.q (.seq none .c (.seq none (.one (.q .nil)) .nil)))))) (.seq none (.q (.q (.cond (.q .nil) .nil))) (.q (.seq none (.q (.one (.loop ⟨[1,34,35],[(8,(.b .slice)),(36,(.b (.int .i64)))]⟩ (.q (.seq none .c (.seq (some ⟨[1,34,35,36],[(8,(.b .slice))]⟩) (.one (.q (.one (.seq none (.q (.cond .nil (.q .c))) .c)))) .nil)))))) (.q .nil)))))))
def zdm(p0:(Int×Int×Int×Sl×Unit))(R:VWP)(w:World):Prop:=Nw (w.alloc (.cells #[zh p0.1,zu p0.2.1,zu p0.2.2.1,p0.2.2.2.1.zw] 50)) λw1=>ldS w1 ((zB w).add 3) λx1=>zj (S:=Sl×Int×Unit) (λs2 w2 n3=>ifB (decide (s2.2.1<(x1.l:Int))) ((0<=s2.2.1/\s2.2.1<(x1.l:Int))/\za x1.a λa4=>dr w2 (a4.add (s2.2.1.toNat *3)) λx5 x6 x7=>Nw (w2.alloc (.cells #[zb 0,zu 0,.string (BM #[])] 136)) λw3=>ds w3 (zB w2) (zb x5) (zu x6) (.string x7) λw6=>ldI w6 (zB w2) .u8 λx8=>Nw (w6.alloc (.cells #[zb x8] 5)) λw7=>zC Tryz.prog 145 (s2.1.zw) (.slice (some (zB w6)) 1 1) w7 λr9 w8=>n3 (r9,(IntKind.i64.wrap (s2.2.1+(1:Int))),()) w8) (ldI w2 (zB w) .u16 λx10=>dU 73 #[zh x10,s2.1.zw] w2 λx12 x13 w9=>ifB (!x13) (R (.slice none 0 0) w9) (ldS w9 ((zB w).add 3) λx14=>zj (S:=Sl×Int×Unit) (λs15 w10 n16=>ifB (decide (s15.2.1<(x14.l:Int))) (zk (S:=Sl×Unit) (λm17=>(0<=s15.2.1/\s15.2.1<(x14.l:Int))/\za x14.a λa19=>dr w10 (a19.add (s15.2.1.toNat *3)) λx20 x21 x22=>Nw (w10.alloc (.cells #[zb 0,zu 0,.string (BM #[])] 136)) λw11=>ds w11 (zB w10) (zb x20) (zu x21) (.string x22) λw14=>ldI w14 (zB w) .u16 λx23=>ifB (x23==249) (ifB (x23==249) (ldI w14 ((zB w10).add 1) .u32 λx24=>Nw (w14.alloc (.cells #[zu x24] 22)) λw15=>zC Tryz.prog 26 (s15.1.zw) (.slice (some (zB w14)) 1 1) w15 λr25 w16=>m17 (r25,()) w16) (m17 (s15.1,()) w14)) (ldI w14 (zB w) .u16 λx26=>ifB (x26==250) (ifB (decide (s15.2.1>(0:Int))) (ifB (decide (s15.2.1>(0:Int))) (ldI w14 ((zB w10).add 1) .u32 λx27=>Nw (w14.alloc (.cells #[zu x27] 22)) λw17=>zC Tryz.prog 26 (s15.1.zw) (.slice (some (zB w14)) 1 1) w17 λr28 w18=>m17 (r28,()) w18) (m17 (s15.1,()) w14)) (ldI w14 (zB w) .u16 λx29=>ifB (x29==251) (ifB ((Int.tmod s15.2.1 2)==1) (ldI w14 ((zB w10).add 1) .u32 λx30=>Nw (w14.alloc (.cells #[zu x30] 22)) λw19=>zC Tryz.prog 26 (s15.1.zw) (.slice (some (zB w14)) 1 1) w19 λr31 w20=>m17 (r31,()) w20) (m17 (s15.1,()) w14)) (m17 (s15.1,()) w14))) (ldI w14 (zB w) .u16 λx32=>ifB (x32==251) (ifB ((Int.tmod s15.2.1 2)==1) (ldI w14 ((zB w10).add 1) .u32 λx33=>Nw (w14.alloc (.cells #[zu x33] 22)) λw21=>zC Tryz.prog 26 (s15.1.zw) (.slice (some (zB w14)) 1 1) w21 λr34 w22=>m17 (r34,()) w22) (m17 (s15.1,()) w14)) (m17 (s15.1,()) w14)))) (λs18 w23=>n16 (s18.1,(IntKind.i64.wrap (s15.2.1+(1:Int))),()) w23)) (R (s15.1.zw) w10)) ((Sl.mk none 0 0),0,()) w9))) ((Sl.mk none 0 0),0,()) w1
theorem zeO(p0)(R)(w)(h:zdm p0 R w):Calls Tryz.prog 38 #[.agg #[.int .u16 p0.1,.int .u32 p0.2.1,.int .u32 p0.2.2.1,.slice p0.2.2.2.1.a p0.2.2.2.1.l p0.2.2.2.1.c]] w (Ret R):=lwC zd0 Tryz.func38 (by kernel_rfl) (by kernel_rfl) h
end Go.Proofs
namespace Go.Proofs
open Go.Gk Go.RowKit Go.Gm
theorem zj.countSl{body:Sl×Int×Unit->World->(Sl×Int×Unit->World->Prop)->Prop}{w:World}{s0:Sl}(n:Nat)(hn:n<=9223372036854775807)(I:Nat->Sl->World->Prop)(h0:I 0 s0 w)
  (h:∀k r w,k<=n->I k r w->∀next:Sl×Int×Unit->World->Prop,(∀r' w',k<n->I (k+1) r' w'->next (r',IntKind.i64.wrap ((k:Int)+1),()) w')->body (r,(k:Int),()) w next):zj body (s0,(0:Int),()) w:=by
 refine zj.ghost (λj s w=>∃(k:Nat) (r:Sl),k<=n/\j=n-k/\s=(r,(k:Int),())/\I k r w) n ⟨0,s0,Nat.zero_le _,rfl,rfl,h0⟩ ?_
 rintro _ _ w ⟨k,r,hk,rfl,rfl,hI⟩ next hnext
 refine h k r w hk hI next λr' w' hlt hI'=>?_
 rw[zr (by omega)]
 exact hnext (n-(k+1)) _ _ (by omega) ⟨k+1,r',by omega,rfl,rfl,hI'⟩
theorem ZS{P:Program}{t e:TypeId}{bytes:Nat}(he:YR P t e 1 bytes){w0 w:World}{s:Sl}{xs:List Value}(h:Own w e 1 s xs)(hb:Below w0.heap.size w0 w)(hF:zA w0.heap.size s){v:Value}(hv:v.oneCell'=true){b c:Nat}{T:TypeId}
  (hB:Blk w b T [v]) (h63:s.l+1<=9223372036854775807) (hbytes:(s.l+1)*bytes<=140737488355328) {k:Sl->World->Prop}
  (hk:∀r w',Own w' e 1 r (xs++[v])->Below w0.heap.size w0 w'->zA w0.heap.size r->k r w'):zC P t (.slice s.a s.l s.c) (.slice (some (blk b)) 1 c) w k:=by
 refine zbg he h hv hB h63 hbytes λr w' h1 _ ⟨b',h3,h4,h5⟩=>?_
 have hbb:w0.heap.size<=b':=by
  rcases h4 with h4 |h4
  ·exact hF _ h4
  ·have:=hb.size
   omega
 exact hk r w' h1 (hb.trans (yC h5 hbb hb.size)) λa ha=>by rw[h3]at ha;cases ha;exact hbb
theorem eU8:YR Tryz.prog 145 5 1 1:=⟨by kernel_rfl,Tryz.t5,.int .u8 0,by kernel_rfl,rfl,rfl,rfl,rfl⟩
theorem zbi{w:World}{s:Sl}{l:List Int}(h:IsS (Value.int .u32) w s l){k:Nat}(hk:k<l.length){φ:Int->Prop}(hφ:φ l[k]) :
  (0<=(k:Int)/\(k:Int)<(s.l:Int))/\za s.a λa=>ldI w (a.add (Int.toNat (k:Int))) .u32 φ:=h.addr hk λ_ _ hc=>⟨l[k],hc,hφ⟩
theorem eU32:YR Tryz.prog 26 22 1 4:=⟨by kernel_rfl,Tryz.t22,.int .u32 0,by kernel_rfl,rfl,rfl,rfl,rfl⟩
def zeq(op:Int)(k:Nat):Bool:=op==249||(op==250&&decide (0<k))||(op==251&&decide (k % 2=1))
def tgtN(op:Int)(al:List Ag)(k:Nat):List Int:=((List.range k).filter (zeq op)).map λj=>(al.getD j (0,0,bs [])).2.1
def tgtP(op:Int)(al:List Ag):List Int:=if (fitP op (al.map (·.1))).2=true then tgtN op al al.length else []
theorem znR{op:Int}{al:List Ag}{k:Nat}(hk:k<al.length)(h:zeq op k=true):tgtN op al (k+1)=tgtN op al k++[al[k].2.1]:=by
 unfold tgtN
 rw[List.range_succ,List.filter_append,List.map_append]
 simp[h,hk]
theorem znQ{op:Int}{al:List Ag}{k:Nat}(h:zeq op k=false):tgtN op al (k+1)=tgtN op al k:=by
 unfold tgtN
 rw[List.range_succ,List.filter_append,List.map_append]
 simp[h]
theorem zlF(op:Int)(al:List Ag)(k:Nat):(tgtN op al k).length<=k:=by
 unfold tgtN
 rw[List.length_map]
 exact Nat.le_trans (List.length_filter_le _ _) (by simp)
theorem zp7(k:Nat):(Int.tmod (k:Int) 2==(1:Int))=decide (k % 2=1):=by
 rw[show Int.tmod (k:Int) 2=((k % 2:Nat):Int) from(Int.ofNat_tmod k 2).symm]
 by_cases h:k % 2=1
 ·rw[h];rfl
 ·rw[decide_eq_false h]
  exact beq_eq_false_iff_ne.2 (by omega)
section
variable {x:Ins} {al:List Ag} {w:World} {R:VWP}
theorem zjW(hI:IsAg w x.2.2.2.1 al)(h24:24*al.length<=140737488351232)
  (hR:∀r w',Own w' 22 1 r ((tgtP x.1 al).map (Value.int .u32))->zA w.heap.size r->Below w.heap.size w w'->R (.slice r.a r.l r.c) w') :
  cR 38 #[inA x] w R:=by
 refine zc.of (zeO x R w ?_) λ_ _ h=>h
 refine zl λw1 hB b1 z1=>?_
 have hB:Blk w1 w.heap.size 50 (inV x):=hB
 refine hB.rS (n:=3) rfl ?_
 have hlen:=hI.len
 refine zj.countSl al.length hI.bound (λk r w'=>Own w' 5 1 r ((al.take k).map λa=>Value.int .u8 a.1)/\zA w1.heap.size r/\Below w1.heap.size w1 w') ⟨Own.nil _ _ _,λa ha=>by(cases ha),Below.refl _ _⟩ ?_
 rintro k r w2 hk ⟨hO,hF,hb⟩ next hnext
 have hb0:=b1.on hb
 have hI2:=hI.below hb0
 refine zg (λh=>?_) (λh=>?_)
 ·have hlt:k<al.length:=by dsimp only at h;omega
  refine zfy hI2 hlt ?_
  refine box3 rfl λw3 h3 b3 z3=>?_
  refine h3.rI0 rfl ?_
  refine zl λw4 h4 b4 z4=>?_
  have hrl:r.l=k:=by have:=hO.1;simp[Nat.min_eq_left hk]at this;omega
  refine ZS eU8 ((hO.below b3).below b4) ((hb.on b3).on b4) hF (v:=.int .u8 al[k].1) rfl h4 (by omega) (by omega) λr' w5 h5 b5 F5=>?_
  refine hnext r' w5 hlt ⟨?_,F5,b5⟩
  rw[List.take_succ_eq_append_getElem hlt,List.map_append]
  exact h5
 ·have hk:k=al.length:=by dsimp only at h;omega
  subst hk
  rw[List.take_length]at hO
  have hB2:=hB.below hb
  refine hB2.rI0 rfl ?_
  have hO':Own w2 5 1 r ((al.map (·.1)).map (Value.int .u8)):=by rw[List.map_map];exact hO
  refine zjk hO'.isS λw3 b3=>⟨_,_,rfl,?_⟩
  have hb3:=hb.on b3
  have hb03:=b1.on hb3
  refine zn (λhn=>?_) (λhn=>?_)
  ·have:tgtP x.1 al=[]:=by
    unfold tgtP
    rw[if_neg (by intro h;rw[h]at hn;cases hn)]
   rw[this]at hR
   exact hR ⟨none,0,0⟩ w3 (Own.nil _ _ _) (λa ha=>by cases ha) hb03
  ·have hp:tgtP x.1 al=tgtN x.1 al al.length:=by
    unfold tgtP
    rw[if_pos (by simpa using hn)]
   rw[hp]at hR
   have hB3:=hB2.below b3
   refine hB3.rS (n:=3) rfl ?_
   refine zj.countSl al.length hI.bound (λk r w'=>Own w' 22 1 r ((tgtN x.1 al k).map (Value.int .u32))/\zA w3.heap.size r/\Below w3.heap.size w3 w') ⟨Own.nil _ _ _,λa ha=>by(cases ha),Below.refl _ _⟩ ?_
   rintro k r w4 hk ⟨hO,hF,hb4⟩ next hnext
   have hb04:=hb03.on hb4
   have hI4:=hI.below hb04
   refine zg (λh=>?_) (λh=>?_)
   ·have hlt:k<al.length:=by dsimp only at h;omega
    refine zk.cut (λst w'=>Own w' 22 1 st.1 ((tgtN x.1 al (k+1)).map (Value.int .u32))/\zA w3.heap.size st.1/\Below w3.heap.size w3 w') ?_ ?_
    ·refine zfy hI4 hlt ?_
     refine box3 rfl λw5 h5 b5 z5=>?_
     have hB5:=(hB3.below hb4).below b5
     have hrl:r.l<=k:=by have:=hO.1;have h2:=zlF x.1 al k;rw[List.length_map]at this;omega
     have take:zeq x.1 k=true->ldI w5 ((blk w4.heap.size).add 1) .u32 λy=>Nw (w5.alloc (.cells #[(.int .u32 y)] 22)) λw6=>
       zC Tryz.prog 26 (.slice r.a r.l r.c) (.slice (some (blk w5.heap.size)) 1 1) w6 λr' w7=>Own w7 22 1 r' ((tgtN x.1 al (k+1)).map (Value.int .u32))/\zA w3.heap.size r'/\Below w3.heap.size w3 w7:=by
      intro ht
      refine h5.rI (n:=1) rfl ?_
      refine zl λw6 h6 b6 z6=>?_
      refine ZS eU32 ((hO.below b5).below b6) ((hb4.on b5).on b6) hF (v:=.int .u32 al[k].2.1) rfl h6 (by omega) (by omega) λr' w7 h7 b7 F7=>⟨?_,F7,b7⟩
      rw[znR hlt ht,List.map_append]
      exact h7
     have skip:zeq x.1 k=false->Own w5 22 1 r ((tgtN x.1 al (k+1)).map (Value.int .u32))/\zA w3.heap.size r/\Below w3.heap.size w3 w5:=by
      intro ht
      rw[znQ ht]
      exact⟨hO.below b5,hF,hb4.on b5⟩
     refine hB5.rI0 rfl (zm (λe1=>zm (λ_=>take ?_) (λe=>absurd e1 e)) (λe1=>?_))
     ·unfold zeq;rw[e1];rfl
     have n1:(x.1==249)=false:=beq_eq_false_iff_ne.2 e1
     have last:x.1≠250\/k=0->∀b:Prop,True->True:=λ_ _ h=>h
     refine hB5.rI0 rfl (zm (λe2=>?_) (λe2=>?_))
     ·have e251:(x.1==251)=false:=by rw[e2];rfl
      refine zg (λh0=>zg (λ_=>take ?_) (λh=>absurd h0 h)) (λh0=>?_)
      ·have:0<k:=by dsimp only at h0;omega
       unfold zeq;rw[e2,decide_eq_true this];rfl
      ·refine hB5.rI0 rfl (zm (λe3=>absurd (e2.symm.trans e3) (by decide)) (λe3=>skip ?_))
       have:¬0<k:=by dsimp only at h0;omega
       unfold zeq;rw[n1,e251,decide_eq_false this];simp
     ·have n2:(x.1==250)=false:=beq_eq_false_iff_ne.2 e2
      refine hB5.rI0 rfl (zm (λe3=>?_) (λe3=>skip ?_))
      ·dsimp only
       rw[zp7]
       refine zg (λh2=>take ?_) (λh2=>skip ?_)
       ·unfold zeq;rw[e3,decide_eq_true h2];rfl
       ·unfold zeq;rw[n1,n2,decide_eq_false h2];simp
      ·unfold zeq;rw[n1,n2,beq_eq_false_iff_ne.2 e3];simp
    ·rintro⟨r',_⟩ w' ⟨h1,h2,h3⟩
     exact hnext r' w' hlt ⟨h1,h2,h3⟩
   ·have hk:k=al.length:=by dsimp only at h;omega
    subst hk
    exact hR r w4 hO (λa ha=>by have:=hF a ha;have:=hb03.size;omega) hb04
theorem ziY(hI:IsAg w x.2.2.2.1 al)(h24:24*al.length<=140737488351232)
  (hR:∀b w',w.heap.size<=b->Blk w' b 136 (flat agV al)->IsAg w' ⟨some (blk b),al.length,al.length⟩ al->Below w.heap.size w w'->R (inA (x.1,x.2.1,x.2.2.1,⟨some (blk b),al.length,al.length⟩,())) w') :
  cR 29 #[inA x] w R:=by
 refine zc.of (zbm x R w ?_) λ_ _ h=>h
 refine zl λw1 hB1 b1 z1=>?_
 have hB1:Blk w1 w.heap.size 50 (inV x):=hB1
 refine zl λw2 hC2 b2 z2=>?_
 have hC2:Blk w2 w1.heap.size 50 [.int .u16 0,.int .u32 0,.int .u32 0,.slice none 0 0]:=hC2
 have hB2:=hB1.below b2
 have hl:=hI.len
 refine hB2.rS (n:=3) rfl ⟨⟨by omega,by omega,by omega,by omega⟩,?_⟩
 refine zl λw3 hD3 b3 z3=>?_
 have hb3:=(b1.on b2).on b3
 have hB3:=hB2.below b3
 have hC3:=hC2.below b3
 rw[hl]
 refine zj.count al.length hI.bound (λk w'=>Below w.heap.size w w'/\w'.heap.size=w3.heap.size/\Blk w' w.heap.size 50 (inV x)/\Blk w' w1.heap.size 50 [.int .u16 0,.int .u32 0,.int .u32 0,.slice none 0 0]/\
   ∃r,Blk w' w2.heap.size 136 (flat agV (al.take k)++r)/\r.length=(al.length-k)*3) ⟨hb3,rfl,hB3,hC3,_,by simpa[flat] using hD3,by rw[Array.length_toList,size_madeCells,hl];simp⟩ ?_
 rintro k w4 hk ⟨hb,hz,hB,hC,r,hD,hr⟩ next hnext
 refine hB.rS (n:=3) rfl ?_
 refine zg (λhlt=>?_) (λhge=>?_)
 ·have hlt:k<al.length:=by dsimp only at hlt;omega
  refine hB.rS (n:=3) rfl ?_
  have hm:=hI.below hb
  refine zfy hm hlt ⟨⟨by omega,by dsimp only;omega⟩,?_⟩
  have hfl:(flat agV (al.take k)).length=k*3:=by rw[ym zaD,List.length_take,Nat.min_eq_left (by omega)]
  obtain⟨r',hr',e⟩:=set3 (flat agV (al.take k)) (cs:=r) (m:=al.length-(k+1)) (by rw[hr];congr 1;omega) (.int .u8 al[k].1) (.int .u32 al[k].2.1) (.string al[k].2.2)
  rw[hfl]at e
  have hcl:(flat agV (al.take k)++r).length=al.length*3:=by rw[List.length_append,hfl,hr,<-Nat.add_mul];congr 1;omega
  rw[show Int.toNat (k:Int)=k from rfl]
  simp only[zs]
  have hD1:=hD.set (k*3) (.int .u8 al[k].1)
  have hD2:=hD1.set (k*3+1) (.int .u32 al[k].2.1)
  have hD3:=hD2.set (k*3+2) (.string al[k].2.2)
  have c1:=((Chg.set w2.heap.size (k*3) w4 (.int .u8 al[k].1)).trans (Chg.set w2.heap.size (k*3+1) _ (.int .u32 al[k].2.1))).trans (Chg.set w2.heap.size (k*3+2) _ (.string al[k].2.2))
  refine⟨hD.wr (by omega),hD1.wr (by rw[List.length_set];omega),hD2.wr (by rw[List.length_set,List.length_set];omega),hnext _ hlt ⟨c1.below hb (by omega),c1.size.trans hz,c1.blk hB (by omega),c1.blk hC (by omega),r',?_,hr'⟩⟩
  rw[e]at hD3
  have e2:flat agV (al.take (k+1))=flat agV (al.take k)++agV al[k]:=by
   rw[List.take_succ_eq_append_getElem hlt]
   show(al.take k++[al[k]]).flatMap agV=_
   rw[List.flatMap_append]
   rfl
  rw[e2]
  exact hD3
 ·have hk':k=al.length:=by dsimp only at hge;omega
  subst hk'
  simp only[Nat.sub_self,Nat.zero_mul]at hr
  have:r=[]:=List.eq_nil_of_length_eq_zero hr
  subst this
  rw[List.take_length,List.append_nil]at hD
  refine⟨hB.wr (n:=3) (by simp),?_⟩
  have c1:=Chg.set w.heap.size 3 w4 (.slice (some (blk w2.heap.size)) al.length al.length)
  have hB5:Blk _ w.heap.size 50 (inV (x.1,x.2.1,x.2.2.1,⟨some (blk w2.heap.size),al.length,al.length⟩,())):=hB.set 3 (.slice (some (blk w2.heap.size)) al.length al.length)
  have hb5:=c1.below hb (Nat.le_refl _)
  have hC5:=c1.blk hC (by omega)
  have hD5:=c1.blk hD (by omega)
  refine Nw.mk (Ins.load hB5 ?_)
  refine st4 hC5 rfl λw6 hC6 c6=>?_
  have hC6:Blk w6 w1.heap.size 50 (inV (x.1,x.2.1,x.2.2.1,⟨some (blk w2.heap.size),al.length,al.length⟩,())):=hC6
  have hD6:=c6.blk hD5 (by omega)
  refine Ins.load hC6 ?_
  exact hR w2.heap.size w6 (by omega) hD6 (Blk.isC zaD (by omega) hD6 hI.bound) (c6.below hb5 (by omega))
end
end Go.Proofs
